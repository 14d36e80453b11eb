/- Part 5 of the texts on which the row stands: CdShelf, ShA, ShB, ShC, ShD, ShE, ShF, ShG, ShH, ShI, ShJ, ShK, ShL, ShM, ShN, ShO. Conditions: none. -/
import Derived.Test.YtpdcpdngckpgbaaGreatHhxd
import Derived.Test.YtpdcpdngckpgbaaGreatProg
set_option linter.unusedVariables false
set_option linter.unusedSimpArgs false
section
set_option maxRecDepth 100000
namespace Go.Proofs.YtpdcpdngckpgbaaGreat.A
open Go Go.Proofs.YtpdcpdngckpgbaaGreatAbs

def c_shelf_Do : C :=
 (.seq (.reg false [oo 2 (.box 77 3 (.t 0)), oo 3 (.box 80 10 (.t 1)), oo 4 (.alloc 77 3 [.slice none 0 0, .slice none 0 0, .int .i64 0]), oo 5 (.alloc 67 3 [.int .i64 0, .bool false, .int .i64 0]), oo 6 (.mv (ki 0))])
 (.seq (.seq (.reg false [oo 10 (.ld true 3 (.t 2)), oo 11 (.call (kf 118) [(.t 10)]), oo 12 (.bin .neq (.t 11) (ki 0)), om 13 12, og 14 13 false (.fa 1 (.t 3)), og 15 13 false (.ld false 1 (.t 14)), og 16 13 false (.call (kf 119) [(.t 15), (ki 0), (ki 2147483647)]), og 17 13 false (.un .not (.t 16)), oo 18 (.pick (.t 13) (kb true) (.t 17)), om 19 18, og 20 19 false (.fa 2 (.t 3)), og 21 19 false (.ld false 1 (.t 20)), og 22 19 false (.call (kf 119) [(.t 21), (ki 1), (ki 2147483647)]), og 23 19 false (.un .not (.t 22)), oo 24 (.pick (.t 19) (kb true) (.t 23))])
 (.cond (.t 24)
 (.seq (.reg false [oo 25 (.bld [.slice none 0 0, .slice none 0 0, .int .i64 0] []), oo 26 (.bld [.int .i64 0, .bool false, .int .i64 0] []), on_ (.st 3 (.t 4) (.t 25)), on_ (.st 3 (.t 5) (.t 26)), oo 6 (.mv (ki 1))])
 .ret)
 .skip))
 (.seq (.reg false [oo 27 (.ld true 3 (.t 2)), oo 28 (.call (kf 120) [(.t 27)]), on_ (.st 3 (.t 2) (.t 28))])
 (.seq (.seq (.reg false [oo 29 (.fa 1 (.t 2)), oo 30 (.ld false 1 (.t 29)), oo 31 (.len (.t 30)), oo 32 (.mv (ki 0))])
 (.block 0 (.loop (.seq (.reg false [oo 33 (.bin .lss (.t 32) (.t 31))])
 (.seq (.cond (.t 33)
 .skip
 (.exit 0))
 (.seq (.block 1 (.seq (.reg false [oo 34 (.ia 5 (.t 30) (.t 32)), oo 35 (.ld true 5 (.t 34)), oo 8 (.alloc 130 5 [.int .i64 0, .int .i64 0, .int .i64 0, .bool false, .int .i64 0]), on_ (.st 5 (.t 8) (.t 35))])
 (.seq (.seq (.reg false [oo 36 (.fa 0 (.t 8)), oo 37 (.ld false 1 (.t 36)), oo 38 (.fa 1 (.t 3)), oo 39 (.ld false 1 (.t 38)), oo 40 (.bin .eql (.t 37) (.t 39)), om 41 40, og 42 41 true (.fa 1 (.t 8)), og 43 41 true (.ld false 1 (.t 42)), og 44 41 true (.fa 2 (.t 3)), og 45 41 true (.ld false 1 (.t 44)), og 46 41 true (.bin .eql (.t 43) (.t 45)), oo 47 (.pick (.t 41) (.t 46) (kb false))])
 (.cond (.t 47)
 (.seq (.rgx [[], [], [1], [0], [2, 1, 3, 0], [4, 2, 1, 3, 0]] [oo 48 (.ld true 3 (.t 2)), oo 49 (.fa 2 (.t 8)), oo 50 (.ld true 3 (.t 49)), on_ (.st 3 (.t 4) (.t 48)), on_ (.st 3 (.t 5) (.t 50)), oo 6 (.mv (ki 0))])
 .ret)
 .skip))
 (.seq (.reg false [oo 51 (.fa 0 (.t 8)), oo 52 (.ld false 1 (.t 51)), oo 53 (.fa 1 (.t 3)), oo 54 (.ld false 1 (.t 53)), oo 55 (.bin .eql (.t 52) (.t 54)), om 56 55, og 57 56 true (.fa 1 (.t 8)), og 58 56 true (.ld false 1 (.t 57)), og 59 56 true (.fa 2 (.t 3)), og 60 56 true (.ld false 1 (.t 59)), og 61 56 true (.bin .gtr (.t 58) (.t 60)), oo 62 (.pick (.t 56) (.t 61) (kb false))])
 (.cond (.t 62)
 (.seq (.reg false [oo 63 (.ld true 3 (.t 2)), oo 64 (.bld [.int .i64 0, .bool false, .int .i64 0] [(0, 1, (ki 9))]), on_ (.st 3 (.t 4) (.t 63)), on_ (.st 3 (.t 5) (.t 64)), oo 6 (.mv (ki 0))])
 .ret)
 .skip)))))
 (.reg false [oo 65 (.bin .add (.t 32) (ki 1)), om 32 65])))))))
 (.seq (.reg false [oo 67 (.ld true 3 (.t 2)), oo 68 (.fa 3 (.t 3)), oo 69 (.ld true 7 (.t 68)), oo 70 (.call (kf 121) [(.t 67), (.t 69)]), om 66 70, oo 71 (.ex (.t 66) 0), oo 72 (.ex (.t 66) 1), oo 9 (.alloc 67 3 [.int .i64 0, .bool false, .int .i64 0]), on_ (.st 3 (.t 2) (.t 71)), on_ (.st 3 (.t 9) (.t 72))])
 (.seq (.seq (.reg false [oo 73 (.fa 1 (.t 3)), oo 74 (.ld false 1 (.t 73)), oo 75 (.bin .gtr (.t 74) (ki 0))])
 (.cond (.t 75)
 (.reg false [oo 76 (.ld true 3 (.t 2)), oo 77 (.fa 1 (.t 3)), oo 78 (.ld false 1 (.t 77)), oo 79 (.fa 2 (.t 3)), oo 80 (.ld false 1 (.t 79)), oo 81 (.ld true 3 (.t 9)), oo 82 (.bld [.int .i64 0, .int .i64 0, .int .i64 0, .bool false, .int .i64 0] [(0, 1, (.t 78)), (1, 1, (.t 80)), (2, 3, (.t 81))]), oo 83 (.call (kf 122) [(.t 76), (.t 82)]), on_ (.st 3 (.t 2) (.t 83))])
 .skip))
 (.seq (.rgx [[], [], [0], [1, 2, 0], [3, 1, 2, 0]] [oo 84 (.ld true 3 (.t 2)), oo 85 (.ld true 3 (.t 9)), on_ (.st 3 (.t 4) (.t 84)), on_ (.st 3 (.t 5) (.t 85)), oo 6 (.mv (ki 0))])
 .ret)))))))
abbrev n_shelf_Do : Nat := 84
theorem F_shelf_Do : Fun Tryz.prog n_shelf_Do 86 c_shelf_Do [.l true 3 4, .l true 3 5, .t 6] := ⟨⟨Tryz.f84, _, Tryz.func84, by kernel_rfl, rfl, rfl, by kernel_rfl, by kernel_rfl⟩⟩
def c_windroseref14_Line : C :=
 (.seq (.reg false [oo 2 (.box 77 3 (.t 0)), oo 4 (.mv (.k (.one (.c (.v (.slice none 0 0))))))])
 (.seq (.seq (.reg false [oo 5 (.mv (ki 0))])
 (.block 0 (.loop (.seq (.seq (.reg false [om 6 5, oo 7 (.fa 0 (.t 2)), oo 8 (.ld false 1 (.t 7)), oo 9 (.len (.t 8)), oo 10 (.bin .lss (.t 6) (.t 9))])
 (.cond (.t 10)
 .skip
 (.exit 0)))
 (.seq (.block 1 (.seq (.reg false [oo 13 (.fa 0 (.t 2)), oo 14 (.ld false 1 (.t 13)), om 15 5, oo 16 (.ia 2 (.t 14) (.t 15)), oo 17 (.fa 0 (.t 16)), oo 18 (.ld false 1 (.t 17)), om 19 1, oo 20 (.bin .eql (.t 18) (.t 19))])
 (.cond (.t 20)
 (.seq (.reg false [oo 21 (.fa 0 (.t 2)), oo 22 (.ld false 1 (.t 21)), om 23 5, oo 24 (.ia 2 (.t 22) (.t 23)), oo 25 (.fa 1 (.t 24)), oo 26 (.ld false 1 (.t 25)), om 4 26])
 .ret)
 .skip)))
 (.reg false [om 11 5, oo 12 (.bin .add (.t 11) (ki 1)), om 5 12]))))))
 (.seq (.reg false [oo 4 (.mv (.k (.one (.c (.v (.slice none 0 0))))))])
 .ret)))
abbrev n_windroseref14_Line : Nat := 151
theorem F_windroseref14_Line : Fun Tryz.prog n_windroseref14_Line 27 c_windroseref14_Line [.t 4] := ⟨⟨Tryz.f151, _, Tryz.func151, by kernel_rfl, rfl, rfl, by kernel_rfl, by kernel_rfl⟩⟩
def c_shelf_Check : C :=
 (.seq (.reg false [oo 1 (.box 77 3 (.t 0)), oo 2 (.mv (ki 0))])
 (.seq (.seq (.reg false [oo 7 (.fa 0 (.t 1)), oo 8 (.ld false 1 (.t 7)), oo 9 (.len (.t 8)), oo 10 (.bin .gtr (.t 9) (ki 16)), om 11 10, og 12 11 false (.fa 1 (.t 1)), og 13 11 false (.ld false 1 (.t 12)), og 14 11 false (.len (.t 13)), og 15 11 false (.bin .gtr (.t 14) (ki 8)), oo 16 (.pick (.t 11) (kb true) (.t 15)), om 17 16, og 18 17 false (.fa 2 (.t 1)), og 19 17 false (.ld false 1 (.t 18)), og 20 17 false (.call (kf 119) [(.t 19), (ki 0), (ki 1099511627776)]), og 21 17 false (.un .not (.t 20)), oo 22 (.pick (.t 17) (kb true) (.t 21))])
 (.cond (.t 22)
 (.seq (.reg false [oo 2 (.mv (ki 1))])
 .ret)
 .skip))
 (.seq (.seq (.reg false [oo 23 (.fa 0 (.t 1)), oo 24 (.ld false 1 (.t 23)), oo 25 (.len (.t 24)), oo 26 (.mv (ki 0))])
 (.block 0 (.loop (.seq (.reg false [oo 27 (.bin .lss (.t 26) (.t 25))])
 (.seq (.cond (.t 27)
 .skip
 (.exit 0))
 (.seq (.block 1 (.seq (.reg false [om 28 26, oo 29 (.ia 2 (.t 24) (.t 26)), oo 30 (.ld true 2 (.t 29)), oo 4 (.alloc 136 2 [.string ⟨#[]⟩, .slice none 0 0]), om 3 28, on_ (.st 2 (.t 4) (.t 30))])
 (.seq (.reg true [oo 31 (.fa 0 (.t 4)), oo 32 (.ld false 1 (.t 31)), oo 33 (.call (kf 158) [(.t 32)]), oo 34 (.un .not (.t 33)), om 35 34, og 36 35 false (.mv (.t 3)), og 37 35 false (.bin .gtr (.t 36) (ki 0)), og 38 35 false (.mv (.t 37)), og 39 38 true (.fa 0 (.t 4)), og 40 38 true (.ld false 1 (.t 39)), og 41 38 true (.fa 0 (.t 1)), og 42 38 true (.ld false 1 (.t 41)), og 43 38 true (.mv (.t 3)), og 44 38 true (.bin .sub (.t 43) (ki 1)), og 45 38 true (.ia 2 (.t 42) (.t 44)), og 46 38 true (.fa 0 (.t 45)), og 47 38 true (.ld false 1 (.t 46)), og 48 38 true (.bin .leq (.t 40) (.t 47)), og 49 35 false (.pick (.t 38) (.t 48) (kb false)), oo 50 (.pick (.t 35) (kb true) (.t 49)), om 51 50, og 52 51 false (.fa 1 (.t 4)), og 53 51 false (.ld false 1 (.t 52)), og 54 51 false (.len (.t 53)), og 55 51 false (.bin .eql (.t 54) (ki 0)), oo 56 (.pick (.t 51) (kb true) (.t 55)), om 57 56, og 58 57 false (.fa 1 (.t 4)), og 59 57 false (.ld false 1 (.t 58)), og 60 57 false (.call (kf 159) [(.t 59)]), og 61 57 false (.bin .neq (.t 60) (ki 0)), oo 62 (.pick (.t 57) (kb true) (.t 61)), om 63 62, og 64 63 false (.fa 1 (.t 4)), og 65 63 false (.ld false 1 (.t 64)), og 66 63 false (.ia 2 (.t 65) (ki 0)), og 67 63 false (.fa 0 (.t 66)), og 68 63 false (.ld false 1 (.t 67)), og 69 63 false (.fa 2 (.t 1)), og 70 63 false (.ld false 1 (.t 69)), og 71 63 false (.bin .lss (.t 68) (.t 70)), oo 72 (.pick (.t 63) (kb true) (.t 71))])
 (.cond (.t 72)
 (.seq (.reg false [oo 2 (.mv (ki 1))])
 .ret)
 .skip))))
 (.reg false [oo 73 (.bin .add (.t 26) (ki 1)), om 26 73])))))))
 (.seq (.seq (.reg false [oo 74 (.fa 1 (.t 1)), oo 75 (.ld false 1 (.t 74)), oo 76 (.len (.t 75)), oo 77 (.mv (ki 0))])
 (.block 2 (.loop (.seq (.reg false [oo 78 (.bin .lss (.t 77) (.t 76))])
 (.seq (.cond (.t 78)
 .skip
 (.exit 2))
 (.seq (.block 3 (.seq (.reg false [om 79 77, oo 80 (.ia 5 (.t 75) (.t 77)), oo 81 (.ld true 5 (.t 80)), oo 6 (.alloc 130 5 [.int .i64 0, .int .i64 0, .int .i64 0, .bool false, .int .i64 0]), om 5 79, on_ (.st 5 (.t 6) (.t 81))])
 (.seq (.reg true [oo 82 (.fa 0 (.t 6)), oo 83 (.ld false 1 (.t 82)), oo 84 (.call (kf 119) [(.t 83), (ki 1), (ki 2147483647)]), oo 85 (.un .not (.t 84)), om 86 85, og 87 86 false (.fa 1 (.t 6)), og 88 86 false (.ld false 1 (.t 87)), og 89 86 false (.call (kf 119) [(.t 88), (ki 1), (ki 2147483647)]), og 90 86 false (.un .not (.t 89)), oo 91 (.pick (.t 86) (kb true) (.t 90)), om 92 91, og 93 92 false (.mv (.t 5)), og 94 92 false (.bin .gtr (.t 93) (ki 0)), og 95 92 false (.mv (.t 94)), og 96 95 true (.fa 0 (.t 6)), og 97 95 true (.ld false 1 (.t 96)), og 98 95 true (.fa 1 (.t 1)), og 99 95 true (.ld false 1 (.t 98)), og 100 95 true (.mv (.t 5)), og 101 95 true (.bin .sub (.t 100) (ki 1)), og 102 95 true (.ia 5 (.t 99) (.t 101)), og 103 95 true (.fa 0 (.t 102)), og 104 95 true (.ld false 1 (.t 103)), og 105 95 true (.bin .leq (.t 97) (.t 104)), og 106 92 false (.pick (.t 95) (.t 105) (kb false)), oo 107 (.pick (.t 92) (kb true) (.t 106))])
 (.cond (.t 107)
 (.seq (.reg false [oo 2 (.mv (ki 1))])
 .ret)
 .skip))))
 (.reg false [oo 108 (.bin .add (.t 77) (ki 1)), om 77 108])))))))
 (.seq (.reg false [oo 2 (.mv (ki 0))])
 .ret)))))
abbrev n_shelf_Check : Nat := 118
theorem F_shelf_Check : Fun Tryz.prog n_shelf_Check 109 c_shelf_Check [.t 2] := ⟨⟨Tryz.f118, _, Tryz.func118, by kernel_rfl, rfl, rfl, by kernel_rfl, by kernel_rfl⟩⟩
def c_shelf_CheckOp : C :=
 (.seq (.reg false [oo 1 (.box 65 7 (.t 0)), oo 2 (.mv (ki 0))])
 (.seq (.reg false [oo 5 (.fa 0 (.t 1)), oo 6 (.ld false 1 (.t 5)), oo 7 (.bld [.int .i64 0, .string ⟨#[]⟩, .int .i64 0, .int .i64 0, .int .i64 0, .int .i64 0, .int .i64 0] [(0, 1, (.t 6))]), oo 3 (.alloc 65 7 [.int .i64 0, .string ⟨#[]⟩, .int .i64 0, .int .i64 0, .int .i64 0, .int .i64 0, .int .i64 0]), on_ (.st 7 (.t 3) (.t 7))])
 (.seq (.reg false [oo 8 (.fa 0 (.t 1)), oo 9 (.ld false 1 (.t 8)), oo 10 (.bin .eql (.t 9) (ki 2)), om 11 10, og 12 11 false (.fa 1 (.t 1)), og 13 11 false (.ld false 1 (.t 12)), og 14 11 false (.call (kf 158) [(.t 13)]), oo 15 (.pick (.t 11) (kb true) (.t 14)), om 4 15])
 (.seq (.seq (.reg false [oo 16 (.fa 0 (.t 1)), oo 17 (.ld false 1 (.t 16))])
 (.block 0 (.seq (.reg false [oo 19 (.bin .eql (.t 17) (ki 1)), om 18 19])
 (.cond (.t 18)
 (.seq (.rgx [[], [0], [], [2], [0, 1], [4, 0, 1], [0, 1, 2, 3, 4, 5], [6, 0, 1, 2, 3, 4, 5]] [oo 20 (.fa 1 (.t 1)), oo 21 (.ld false 1 (.t 20)), oo 22 (.fa 2 (.t 1)), oo 23 (.ld true 2 (.t 22)), oo 24 (.fa 1 (.t 3)), on_ (.st 1 (.t 24) (.t 21)), oo 25 (.fa 2 (.t 3)), on_ (.st 2 (.t 25) (.t 23))])
 (.reg false [om 26 4, om 27 26, og 28 27 true (.fa 2 (.t 1)), og 29 27 true (.ld true 2 (.t 28)), og 30 27 true (.bsl 63 2 1 [.int .i64 0, .int .i64 0] [(0, (.t 29))]), og 31 27 true (.call (kf 159) [(.t 30)]), og 32 27 true (.bin .eql (.t 31) (ki 0)), oo 33 (.pick (.t 27) (.t 32) (kb false)), om 4 33]))
 (.seq (.reg false [oo 35 (.bin .eql (.t 17) (ki 2)), om 34 35])
 (.cond (.t 34)
 (.seq (.reg false [oo 36 (.fa 4 (.t 1)), oo 37 (.ld false 1 (.t 36)), oo 38 (.fa 4 (.t 3)), on_ (.st 1 (.t 38) (.t 37))])
 (.reg false [oo 39 (.fa 4 (.t 1)), oo 40 (.ld false 1 (.t 39)), oo 41 (.call (kf 119) [(.t 40), (ki 0), (ki 1099511627776)]), om 4 41]))
 (.seq (.reg false [oo 43 (.bin .eql (.t 17) (ki 3)), om 42 43])
 (.cond (.t 42)
 (.seq (.rgx [[], [0], [], [2], [], [4], [], [6], [0, 1], [8, 0, 1], [0, 1, 2, 3, 8, 9], [10, 0, 1, 2, 3, 8, 9], [0, 1, 2, 3, 4, 5, 8, 9, 10, 11], [12, 0, 1, 2, 3, 4, 5, 8, 9, 10, 11], [0, 1, 2, 3, 4, 5, 6, 7, 8, 9, 10, 11, 12, 13], [14, 0, 1, 2, 3, 4, 5, 6, 7, 8, 9, 10, 11, 12, 13]] [oo 44 (.fa 1 (.t 1)), oo 45 (.ld false 1 (.t 44)), oo 46 (.fa 4 (.t 1)), oo 47 (.ld false 1 (.t 46)), oo 48 (.fa 5 (.t 1)), oo 49 (.ld false 1 (.t 48)), oo 50 (.fa 6 (.t 1)), oo 51 (.ld false 1 (.t 50)), oo 52 (.fa 1 (.t 3)), on_ (.st 1 (.t 52) (.t 45)), oo 53 (.fa 4 (.t 3)), on_ (.st 1 (.t 53) (.t 47)), oo 54 (.fa 5 (.t 3)), on_ (.st 1 (.t 54) (.t 49)), oo 55 (.fa 6 (.t 3)), on_ (.st 1 (.t 55) (.t 51))])
 (.reg false [om 56 4, om 57 56, og 58 57 true (.fa 6 (.t 1)), og 59 57 true (.ld false 1 (.t 58)), og 60 57 true (.call (kf 119) [(.t 59), (ki 1), (ki 5)]), oo 61 (.pick (.t 57) (.t 60) (kb false)), om 4 61]))
 (.seq (.reg false [oo 63 (.bin .eql (.t 17) (ki 4)), om 62 63])
 (.cond (.t 62)
 (.rgx [[], [0], [], [2], [0, 1], [4, 0, 1], [0, 1, 2, 3, 4, 5], [6, 0, 1, 2, 3, 4, 5]] [oo 64 (.fa 1 (.t 1)), oo 65 (.ld false 1 (.t 64)), oo 66 (.fa 4 (.t 1)), oo 67 (.ld false 1 (.t 66)), oo 68 (.fa 1 (.t 3)), on_ (.st 1 (.t 68) (.t 65)), oo 69 (.fa 4 (.t 3)), on_ (.st 1 (.t 69) (.t 67))])
 (.reg false [oo 4 (.mv (kb false))])))))))))))
 (.seq (.seq (.reg false [om 70 4, oo 71 (.un .not (.t 70)), om 72 71, og 73 72 false (.ld true 7 (.t 1)), og 74 72 false (.ld true 7 (.t 3)), og 75 72 false (.eqa [1, 2, 1, 1, 1, 1, 1] true (.t 73) (.t 74)), oo 76 (.pick (.t 72) (kb true) (.t 75))])
 (.cond (.t 76)
 (.seq (.reg false [oo 2 (.mv (ki 1))])
 .ret)
 .skip))
 (.seq (.reg false [oo 2 (.mv (ki 0))])
 .ret))))))
abbrev n_shelf_CheckOp : Nat := 113
theorem F_shelf_CheckOp : Fun Tryz.prog n_shelf_CheckOp 77 c_shelf_CheckOp [.t 2] := ⟨⟨Tryz.f113, _, Tryz.func113, by kernel_rfl, rfl, rfl, by kernel_rfl, by kernel_rfl⟩⟩
def c_windroseref14_Op : C :=
 (.seq (.reg false [oo 1 (.box 65 7 (.t 0)), oo 2 (.mv (kb false))])
 (.seq (.seq (.reg false [oo 3 (.fa 0 (.t 1)), oo 4 (.ld false 1 (.t 3)), oo 5 (.bin .eql (.t 4) (ki 2))])
 (.cond (.t 5)
 (.seq (.reg false [oo 6 (.ld true 7 (.t 1)), oo 7 (.fa 0 (.t 1)), oo 8 (.ld false 1 (.t 7)), oo 9 (.fa 4 (.t 1)), oo 10 (.ld false 1 (.t 9)), oo 11 (.bld [.int .i64 0, .string ⟨#[]⟩, .int .i64 0, .int .i64 0, .int .i64 0, .int .i64 0, .int .i64 0] [(0, 1, (.t 8)), (4, 1, (.t 10))]), oo 12 (.eqa [1, 2, 1, 1, 1, 1, 1] false (.t 6) (.t 11)), om 13 12, og 14 13 true (.fa 4 (.t 1)), og 15 13 true (.ld false 1 (.t 14)), og 16 13 true (.bin .geq (.t 15) (ki 0)), oo 17 (.pick (.t 13) (.t 16) (kb false)), om 18 17, og 19 18 true (.fa 4 (.t 1)), og 20 18 true (.ld false 1 (.t 19)), og 21 18 true (.bin .leq (.t 20) (ki 1099511627776)), oo 22 (.pick (.t 18) (.t 21) (kb false)), om 2 22])
 .ret)
 .skip))
 (.seq (.seq (.reg false [oo 23 (.fa 1 (.t 1)), oo 24 (.ld false 1 (.t 23)), oo 25 (.call (kf 71) [(.t 24)]), oo 26 (.un .not (.t 25))])
 (.cond (.t 26)
 (.seq (.reg false [oo 2 (.mv (kb false))])
 .ret)
 .skip))
 (.seq (.seq (.reg false [oo 27 (.fa 0 (.t 1)), oo 28 (.ld false 1 (.t 27))])
 (.block 0 (.seq (.reg false [oo 30 (.bin .eql (.t 28) (ki 1)), om 29 30])
 (.cond (.t 29)
 (.seq (.reg false [oo 31 (.ld true 7 (.t 1)), oo 32 (.fa 0 (.t 1)), oo 33 (.ld false 1 (.t 32)), oo 34 (.fa 1 (.t 1)), oo 35 (.ld false 1 (.t 34)), oo 36 (.fa 2 (.t 1)), oo 37 (.ld true 2 (.t 36)), oo 38 (.bld [.int .i64 0, .string ⟨#[]⟩, .int .i64 0, .int .i64 0, .int .i64 0, .int .i64 0, .int .i64 0] [(0, 1, (.t 33)), (1, 1, (.t 35)), (2, 2, (.t 37))]), oo 39 (.eqa [1, 2, 1, 1, 1, 1, 1] false (.t 31) (.t 38)), om 40 39, og 41 40 true (.fa 2 (.t 1)), og 42 40 true (.ld true 2 (.t 41)), og 43 40 true (.bsl 63 2 1 [.int .i64 0, .int .i64 0] [(0, (.t 42))]), og 44 40 true (.call (kf 72) [(.t 43)]), oo 45 (.pick (.t 40) (.t 44) (kb false)), om 2 45])
 .ret)
 (.seq (.reg false [oo 47 (.bin .eql (.t 28) (ki 3)), om 46 47])
 (.cond (.t 46)
 (.seq (.reg false [oo 48 (.ld true 7 (.t 1)), oo 49 (.fa 0 (.t 1)), oo 50 (.ld false 1 (.t 49)), oo 51 (.fa 1 (.t 1)), oo 52 (.ld false 1 (.t 51)), oo 53 (.fa 4 (.t 1)), oo 54 (.ld false 1 (.t 53)), oo 55 (.fa 5 (.t 1)), oo 56 (.ld false 1 (.t 55)), oo 57 (.fa 6 (.t 1)), oo 58 (.ld false 1 (.t 57)), oo 59 (.bld [.int .i64 0, .string ⟨#[]⟩, .int .i64 0, .int .i64 0, .int .i64 0, .int .i64 0, .int .i64 0] [(0, 1, (.t 50)), (1, 1, (.t 52)), (4, 1, (.t 54)), (5, 1, (.t 56)), (6, 1, (.t 58))]), oo 60 (.eqa [1, 2, 1, 1, 1, 1, 1] false (.t 48) (.t 59)), om 61 60, og 62 61 true (.fa 6 (.t 1)), og 63 61 true (.ld false 1 (.t 62)), og 64 61 true (.bin .geq (.t 63) (ki 1)), oo 65 (.pick (.t 61) (.t 64) (kb false)), om 66 65, og 67 66 true (.fa 6 (.t 1)), og 68 66 true (.ld false 1 (.t 67)), og 69 66 true (.bin .leq (.t 68) (ki 5)), oo 70 (.pick (.t 66) (.t 69) (kb false)), om 2 70])
 .ret)
 (.seq (.reg false [oo 72 (.bin .eql (.t 28) (ki 4)), om 71 72])
 (.cond (.t 71)
 (.seq (.reg false [oo 73 (.ld true 7 (.t 1)), oo 74 (.fa 0 (.t 1)), oo 75 (.ld false 1 (.t 74)), oo 76 (.fa 1 (.t 1)), oo 77 (.ld false 1 (.t 76)), oo 78 (.fa 4 (.t 1)), oo 79 (.ld false 1 (.t 78)), oo 80 (.bld [.int .i64 0, .string ⟨#[]⟩, .int .i64 0, .int .i64 0, .int .i64 0, .int .i64 0, .int .i64 0] [(0, 1, (.t 75)), (1, 1, (.t 77)), (4, 1, (.t 79))]), oo 81 (.eqa [1, 2, 1, 1, 1, 1, 1] false (.t 73) (.t 80)), om 2 81])
 .ret)
 .skip))))))))
 (.seq (.reg false [oo 2 (.mv (kb false))])
 .ret)))))
abbrev n_windroseref14_Op : Nat := 37
theorem F_windroseref14_Op : Fun Tryz.prog n_windroseref14_Op 82 c_windroseref14_Op [.t 2] := ⟨⟨Tryz.f37, _, Tryz.func37, by kernel_rfl, rfl, rfl, by kernel_rfl, by kernel_rfl⟩⟩
def c_windroseref14_Do : C :=
 (.seq (.reg false [oo 2 (.box 77 3 (.t 0)), oo 3 (.box 80 10 (.t 1)), oo 4 (.alloc 77 3 [.slice none 0 0, .slice none 0 0, .int .i64 0]), oo 5 (.alloc 67 3 [.int .i64 0, .bool false, .int .i64 0]), oo 6 (.mv (ki 0))])
 (.seq (.seq (.reg false [oo 11 (.fa 1 (.t 3)), oo 12 (.ld false 1 (.t 11)), oo 13 (.bin .lss (.t 12) (ki 0)), om 14 13, og 15 14 false (.fa 1 (.t 3)), og 16 14 false (.ld false 1 (.t 15)), og 17 14 false (.bin .geq (.t 16) (ki 2147483648)), oo 18 (.pick (.t 14) (kb true) (.t 17)), om 19 18, og 20 19 false (.fa 2 (.t 3)), og 21 19 false (.ld false 1 (.t 20)), og 22 19 false (.bin .lss (.t 21) (ki 1)), oo 23 (.pick (.t 19) (kb true) (.t 22)), om 24 23, og 25 24 false (.fa 2 (.t 3)), og 26 24 false (.ld false 1 (.t 25)), og 27 24 false (.bin .geq (.t 26) (ki 2147483648)), oo 28 (.pick (.t 24) (kb true) (.t 27))])
 (.cond (.t 28)
 (.seq (.reg false [oo 29 (.bld [.slice none 0 0, .slice none 0 0, .int .i64 0] []), oo 30 (.bld [.int .i64 0, .bool false, .int .i64 0] []), on_ (.st 3 (.t 4) (.t 29)), on_ (.st 3 (.t 5) (.t 30)), oo 6 (.mv (ki 1))])
 .ret)
 .skip))
 (.seq (.seq (.reg false [oo 7 (.mv (ki 0))])
 (.block 0 (.loop (.seq (.seq (.reg false [om 31 7, oo 32 (.fa 1 (.t 2)), oo 33 (.ld false 1 (.t 32)), oo 34 (.len (.t 33)), oo 35 (.bin .lss (.t 31) (.t 34))])
 (.cond (.t 35)
 .skip
 (.exit 0)))
 (.seq (.block 1 (.seq (.reg false [oo 38 (.fa 1 (.t 2)), oo 39 (.ld false 1 (.t 38)), om 40 7, oo 41 (.ia 5 (.t 39) (.t 40)), oo 42 (.ld true 5 (.t 41)), oo 8 (.alloc 130 5 [.int .i64 0, .int .i64 0, .int .i64 0, .bool false, .int .i64 0]), on_ (.st 5 (.t 8) (.t 42))])
 (.seq (.seq (.reg false [oo 43 (.fa 0 (.t 8)), oo 44 (.ld false 1 (.t 43)), oo 45 (.fa 1 (.t 3)), oo 46 (.ld false 1 (.t 45)), oo 47 (.bin .eql (.t 44) (.t 46)), om 48 47, og 49 48 true (.fa 1 (.t 8)), og 50 48 true (.ld false 1 (.t 49)), og 51 48 true (.fa 2 (.t 3)), og 52 48 true (.ld false 1 (.t 51)), og 53 48 true (.bin .eql (.t 50) (.t 52)), oo 54 (.pick (.t 48) (.t 53) (kb false))])
 (.cond (.t 54)
 (.seq (.rgx [[], [], [1], [0], [2, 1, 3, 0], [4, 2, 1, 3, 0]] [oo 55 (.ld true 3 (.t 2)), oo 56 (.fa 2 (.t 8)), oo 57 (.ld true 3 (.t 56)), on_ (.st 3 (.t 4) (.t 55)), on_ (.st 3 (.t 5) (.t 57)), oo 6 (.mv (ki 0))])
 .ret)
 .skip))
 (.seq (.reg false [oo 58 (.fa 0 (.t 8)), oo 59 (.ld false 1 (.t 58)), oo 60 (.fa 1 (.t 3)), oo 61 (.ld false 1 (.t 60)), oo 62 (.bin .eql (.t 59) (.t 61)), om 63 62, og 64 63 true (.fa 1 (.t 8)), og 65 63 true (.ld false 1 (.t 64)), og 66 63 true (.fa 2 (.t 3)), og 67 63 true (.ld false 1 (.t 66)), og 68 63 true (.bin .gtr (.t 65) (.t 67)), oo 69 (.pick (.t 63) (.t 68) (kb false))])
 (.cond (.t 69)
 (.seq (.reg false [oo 70 (.ld true 3 (.t 2)), oo 71 (.bld [.int .i64 0, .bool false, .int .i64 0] [(0, 1, (ki 9))]), on_ (.st 3 (.t 4) (.t 70)), on_ (.st 3 (.t 5) (.t 71)), oo 6 (.mv (ki 0))])
 .ret)
 .skip)))))
 (.reg false [om 36 7, oo 37 (.bin .add (.t 36) (ki 1)), om 7 37]))))))
 (.seq (.reg false [oo 73 (.ld true 3 (.t 2)), oo 74 (.fa 3 (.t 3)), oo 75 (.ld true 7 (.t 74)), oo 76 (.call (kf 73) [(.t 73), (.t 75)]), om 72 76, oo 77 (.ex (.t 72) 0), oo 78 (.ex (.t 72) 1), oo 9 (.alloc 77 3 [.slice none 0 0, .slice none 0 0, .int .i64 0]), oo 10 (.alloc 67 3 [.int .i64 0, .bool false, .int .i64 0]), on_ (.st 3 (.t 9) (.t 77)), on_ (.st 3 (.t 10) (.t 78))])
 (.seq (.seq (.reg false [oo 79 (.fa 1 (.t 3)), oo 80 (.ld false 1 (.t 79)), oo 81 (.bin .gtr (.t 80) (ki 0))])
 (.cond (.t 81)
 (.reg false [oo 82 (.fa 1 (.t 9)), oo 83 (.ld false 1 (.t 82)), oo 84 (.fa 1 (.t 3)), oo 85 (.ld false 1 (.t 84)), oo 86 (.fa 2 (.t 3)), oo 87 (.ld false 1 (.t 86)), oo 88 (.ld true 3 (.t 10)), oo 89 (.bld [.int .i64 0, .int .i64 0, .int .i64 0, .bool false, .int .i64 0] [(0, 1, (.t 85)), (1, 1, (.t 87)), (2, 3, (.t 88))]), oo 90 (.call (kf 74) [(.t 83), (.t 89)]), oo 91 (.fa 1 (.t 9)), on_ (.st 1 (.t 91) (.t 90))])
 .skip))
 (.seq (.rgx [[], [], [0], [1, 2, 0], [3, 1, 2, 0]] [oo 92 (.ld true 3 (.t 9)), oo 93 (.ld true 3 (.t 10)), on_ (.st 3 (.t 4) (.t 92)), on_ (.st 3 (.t 5) (.t 93)), oo 6 (.mv (ki 0))])
 .ret))))))
abbrev n_windroseref14_Do : Nat := 38
theorem F_windroseref14_Do : Fun Tryz.prog n_windroseref14_Do 94 c_windroseref14_Do [.l true 3 4, .l true 3 5, .t 6] := ⟨⟨Tryz.f38, _, Tryz.func38, by kernel_rfl, rfl, rfl, by kernel_rfl, by kernel_rfl⟩⟩
def c_windroseref14_Apply : C :=
 (.seq (.reg false [oo 2 (.box 77 3 (.t 0)), oo 3 (.box 65 7 (.t 1)), oo 4 (.alloc 77 3 [.slice none 0 0, .slice none 0 0, .int .i64 0]), oo 5 (.alloc 67 3 [.int .i64 0, .bool false, .int .i64 0])])
 (.seq (.seq (.reg false [oo 6 (.ld true 7 (.t 3)), oo 7 (.call (kf 37) [(.t 6)]), oo 8 (.un .not (.t 7))])
 (.cond (.t 8)
 (.seq (.reg false [oo 9 (.ld true 3 (.t 2)), oo 10 (.bld [.int .i64 0, .bool false, .int .i64 0] [(0, 1, (ki 1))]), on_ (.st 3 (.t 4) (.t 9)), on_ (.st 3 (.t 5) (.t 10))])
 .ret)
 .skip))
 (.seq (.reg false [oo 11 (.ld true 3 (.t 2)), oo 12 (.ld true 7 (.t 3)), oo 13 (.call (kf 112) [(.t 11), (.t 12)]), oo 14 (.ex (.t 13) 0), oo 15 (.ex (.t 13) 1), on_ (.st 3 (.t 4) (.t 14)), on_ (.st 3 (.t 5) (.t 15))])
 .ret)))
abbrev n_windroseref14_Apply : Nat := 73
theorem F_windroseref14_Apply : Fun Tryz.prog n_windroseref14_Apply 16 c_windroseref14_Apply [.l true 3 4, .l true 3 5] := ⟨⟨Tryz.f73, _, Tryz.func73, by kernel_rfl, rfl, rfl, by kernel_rfl, by kernel_rfl⟩⟩
def c_windroseref14_series : C :=
 (.seq (.reg false [oo 2 (.mv (kb false))])
 (.seq (.reg false [om 6 0, oo 7 (.call (kf 109) [(.t 6)]), om 5 7, oo 8 (.ex (.t 5) 0), oo 9 (.ex (.t 5) 1), oo 3 (.alloc 100 2 [.string ⟨#[]⟩, .slice none 0 0]), on_ (.st 2 (.t 3) (.t 8)), om 4 9])
 (.seq (.reg false [om 10 4, om 11 10, og 12 11 true (.ld true 2 (.t 3)), og 13 11 true (.call (kf 110) [(.t 12)]), og 14 11 true (.mv (.t 0)), og 15 11 true (.bin .eql (.t 13) (.t 14)), oo 16 (.pick (.t 11) (.t 15) (kb false)), om 2 16])
 .ret)))
abbrev n_windroseref14_series : Nat := 71
theorem F_windroseref14_series : Fun Tryz.prog n_windroseref14_series 17 c_windroseref14_series [.t 2] := ⟨⟨Tryz.f71, _, Tryz.func71, by kernel_rfl, rfl, rfl, by kernel_rfl, by kernel_rfl⟩⟩
def c_windroseref11_May : C :=
 (.seq (.reg false [oo 2 (.mv (kb false))])
 (.seq (.seq (.reg false [oo 3 (.mv (ki 0))])
 (.block 0 (.loop (.seq (.seq (.reg false [om 4 3, om 5 0, oo 6 (.len (.t 5)), oo 7 (.bin .lss (.t 4) (.t 6))])
 (.cond (.t 7)
 .skip
 (.exit 0)))
 (.seq (.block 1 (.seq (.reg true [om 10 0, om 11 3, oo 12 (.ia 2 (.t 10) (.t 11)), oo 13 (.fa 0 (.t 12)), oo 14 (.ld false 1 (.t 13)), oo 15 (.bin .lss (.t 14) (ki 0)), om 16 15, og 17 16 false (.mv (.t 0)), og 18 16 false (.mv (.t 3)), og 19 16 false (.ia 2 (.t 17) (.t 18)), og 20 16 false (.fa 0 (.t 19)), og 21 16 false (.ld false 1 (.t 20)), og 22 16 false (.bin .gtr (.t 21) (ki 1099511627776)), oo 23 (.pick (.t 16) (kb true) (.t 22)), om 24 23, og 25 24 false (.mv (.t 0)), og 26 24 false (.mv (.t 3)), og 27 24 false (.ia 2 (.t 25) (.t 26)), og 28 24 false (.fa 1 (.t 27)), og 29 24 false (.ld false 1 (.t 28)), og 30 24 false (.bin .lss (.t 29) (ki (-1099511627776))), oo 31 (.pick (.t 24) (kb true) (.t 30)), om 32 31, og 33 32 false (.mv (.t 0)), og 34 32 false (.mv (.t 3)), og 35 32 false (.ia 2 (.t 33) (.t 34)), og 36 32 false (.fa 1 (.t 35)), og 37 32 false (.ld false 1 (.t 36)), og 38 32 false (.bin .gtr (.t 37) (ki 1099511627776)), oo 39 (.pick (.t 32) (kb true) (.t 38)), om 40 39, og 41 40 false (.mv (.t 3)), og 42 40 false (.bin .gtr (.t 41) (ki 0)), og 43 40 false (.mv (.t 42)), og 44 43 true (.mv (.t 0)), og 45 43 true (.mv (.t 3)), og 46 43 true (.bin .sub (.t 45) (ki 1)), og 47 43 true (.ia 2 (.t 44) (.t 46)), og 48 43 true (.fa 0 (.t 47)), og 49 43 true (.ld false 1 (.t 48)), og 50 43 true (.mv (.t 0)), og 51 43 true (.mv (.t 3)), og 52 43 true (.ia 2 (.t 50) (.t 51)), og 53 43 true (.fa 0 (.t 52)), og 54 43 true (.ld false 1 (.t 53)), og 55 43 true (.bin .geq (.t 49) (.t 54)), og 56 40 false (.pick (.t 43) (.t 55) (kb false)), oo 57 (.pick (.t 40) (kb true) (.t 56))])
 (.cond (.t 57)
 (.seq (.reg false [oo 2 (.mv (kb false))])
 .ret)
 .skip)))
 (.reg false [om 8 3, oo 9 (.bin .add (.t 8) (ki 1)), om 3 9]))))))
 (.seq (.reg false [om 58 0, oo 59 (.len (.t 58)), oo 60 (.bin .leq (.t 59) (ki 64)), om 2 60])
 .ret)))
abbrev n_windroseref11_May : Nat := 72
theorem F_windroseref11_May : Fun Tryz.prog n_windroseref11_May 61 c_windroseref11_May [.t 2] := ⟨⟨Tryz.f72, _, Tryz.func72, by kernel_rfl, rfl, rfl, by kernel_rfl, by kernel_rfl⟩⟩
def c_windroseref12_Trim : C :=
 (.seq (.reg false [oo 4 (.mv (.k (.one (.c (.v (.slice none 0 0))))))])
 (.seq (.reg false [oo 7 (.bsl 63 2 0 [.int .i64 0, .int .i64 0] []), om 5 7])
 (.seq (.seq (.reg false [oo 6 (.mv (ki 0))])
 (.block 0 (.loop (.seq (.seq (.reg false [om 8 6, om 9 0, oo 10 (.len (.t 9)), oo 11 (.bin .lss (.t 8) (.t 10))])
 (.cond (.t 11)
 .skip
 (.exit 0)))
 (.seq (.block 1 (.seq (.reg false [om 14 0, om 15 6, oo 16 (.ia 2 (.t 14) (.t 15)), oo 17 (.fa 0 (.t 16)), oo 18 (.ld false 1 (.t 17)), om 19 1, oo 20 (.bin .geq (.t 18) (.t 19))])
 (.cond (.t 20)
 (.reg false [om 21 5, om 22 0, om 23 6, oo 24 (.ia 2 (.t 22) (.t 23)), oo 25 (.ld true 2 (.t 24)), oo 26 (.bsl 63 2 1 [.int .i64 0, .int .i64 0] [(0, (.t 25))]), oo 27 (.app 63 2 16 [.int .i64 0, .int .i64 0] (.t 21) (.t 26)), om 5 27])
 .skip)))
 (.reg false [om 12 6, oo 13 (.bin .add (.t 12) (ki 1)), om 6 13]))))))
 (.seq (.reg false [om 28 5, om 4 28])
 .ret))))
abbrev n_windroseref12_Trim : Nat := 154
theorem F_windroseref12_Trim : Fun Tryz.prog n_windroseref12_Trim 29 c_windroseref12_Trim [.t 4] := ⟨⟨Tryz.f154, _, Tryz.func154, by kernel_rfl, rfl, rfl, by kernel_rfl, by kernel_rfl⟩⟩
def c_shelf_in : C :=
 (.seq (.reg false [oo 6 (.mv (kb false))])
 (.seq (.reg false [om 7 0, om 8 1, oo 9 (.bin .geq (.t 7) (.t 8)), om 10 9, og 11 10 true (.mv (.t 0)), og 12 10 true (.mv (.t 2)), og 13 10 true (.bin .leq (.t 11) (.t 12)), oo 14 (.pick (.t 10) (.t 13) (kb false)), om 6 14])
 .ret))
abbrev n_shelf_in : Nat := 119
theorem F_shelf_in : Fun Tryz.prog n_shelf_in 15 c_shelf_in [.t 6] := ⟨⟨Tryz.f119, _, Tryz.func119, by kernel_rfl, rfl, rfl, by kernel_rfl, by kernel_rfl⟩⟩
def c_shelf_own : C :=
 (.seq (.reg false [oo 1 (.box 77 3 (.t 0)), oo 2 (.alloc 77 3 [.slice none 0 0, .slice none 0 0, .int .i64 0])])
 (.seq (.reg true [oo 5 (.fa 0 (.t 1)), oo 6 (.ld false 1 (.t 5)), oo 7 (.call (kf 161) [(.t 6)]), oo 8 (.fa 1 (.t 1)), oo 9 (.ld false 1 (.t 8)), oo 10 (.call (kf 162) [(.t 9)]), oo 11 (.fa 0 (.t 1)), on_ (.st 1 (.t 11) (.t 7)), oo 12 (.fa 1 (.t 1)), on_ (.st 1 (.t 12) (.t 10))])
 (.seq (.seq (.reg false [oo 13 (.fa 0 (.t 1)), oo 14 (.ld false 1 (.t 13)), oo 15 (.len (.t 14)), oo 16 (.mv (ki 0))])
 (.block 0 (.loop (.seq (.reg false [oo 17 (.bin .lss (.t 16) (.t 15))])
 (.seq (.cond (.t 17)
 .skip
 (.exit 0))
 (.seq (.block 1 (.seq (.reg false [om 18 16, oo 19 (.ia 2 (.t 14) (.t 16)), oo 20 (.ld true 2 (.t 19)), oo 4 (.alloc 136 2 [.string ⟨#[]⟩, .slice none 0 0]), om 3 18, on_ (.st 2 (.t 4) (.t 20))])
 (.reg true [oo 21 (.fa 0 (.t 1)), oo 22 (.ld false 1 (.t 21)), om 23 3, oo 24 (.fa 1 (.t 4)), oo 25 (.ld false 1 (.t 24)), oo 26 (.call (kf 163) [(.t 25)]), oo 27 (.ia 2 (.t 22) (.t 23)), oo 28 (.fa 1 (.t 27)), on_ (.st 1 (.t 28) (.t 26))])))
 (.reg false [oo 29 (.bin .add (.t 16) (ki 1)), om 16 29])))))))
 (.seq (.reg false [oo 30 (.ld true 3 (.t 1)), on_ (.st 3 (.t 2) (.t 30))])
 .ret))))
abbrev n_shelf_own : Nat := 120
theorem F_shelf_own : Fun Tryz.prog n_shelf_own 31 c_shelf_own [.l true 3 2] := ⟨⟨Tryz.f120, _, Tryz.func120, by kernel_rfl, rfl, rfl, by kernel_rfl, by kernel_rfl⟩⟩
def c_shelf_do : C :=
 (.seq (.reg false [oo 2 (.box 77 3 (.t 0)), oo 3 (.box 65 7 (.t 1)), oo 4 (.alloc 77 3 [.slice none 0 0, .slice none 0 0, .int .i64 0]), oo 5 (.alloc 67 3 [.int .i64 0, .bool false, .int .i64 0])])
 (.seq (.seq (.reg false [oo 7 (.ld true 7 (.t 3)), oo 8 (.call (kf 113) [(.t 7)]), om 6 8])
 (.seq (.reg false [om 9 6, oo 10 (.bin .neq (.t 9) (ki 0))])
 (.cond (.t 10)
 (.seq (.reg false [oo 11 (.ld true 3 (.t 2)), om 12 6, oo 13 (.bld [.int .i64 0, .bool false, .int .i64 0] [(0, 1, (.t 12))]), on_ (.st 3 (.t 4) (.t 11)), on_ (.st 3 (.t 5) (.t 13))])
 .ret)
 .skip)))
 (.seq (.seq (.reg false [oo 14 (.fa 0 (.t 3)), oo 15 (.ld false 1 (.t 14))])
 (.block 0 (.seq (.reg false [oo 17 (.bin .eql (.t 15) (ki 1)), om 16 17])
 (.cond (.t 16)
 (.seq (.reg false [oo 18 (.ld true 3 (.t 2)), oo 19 (.ld true 7 (.t 3)), oo 20 (.call (kf 164) [(.t 18), (.t 19)]), oo 21 (.ex (.t 20) 0), oo 22 (.ex (.t 20) 1), on_ (.st 3 (.t 4) (.t 21)), on_ (.st 3 (.t 5) (.t 22))])
 .ret)
 (.seq (.reg false [oo 24 (.bin .eql (.t 15) (ki 2)), om 23 24])
 (.cond (.t 23)
 (.seq (.reg false [oo 25 (.ld true 3 (.t 2)), oo 26 (.fa 4 (.t 3)), oo 27 (.ld false 1 (.t 26)), oo 28 (.call (kf 165) [(.t 25), (.t 27)]), oo 29 (.ex (.t 28) 0), oo 30 (.ex (.t 28) 1), on_ (.st 3 (.t 4) (.t 29)), on_ (.st 3 (.t 5) (.t 30))])
 .ret)
 .skip))))))
 (.seq (.reg true [oo 31 (.ld true 3 (.t 2)), oo 32 (.ld true 3 (.t 2)), oo 33 (.ld true 7 (.t 3)), oo 34 (.call (kf 166) [(.t 32), (.t 33)]), on_ (.st 3 (.t 4) (.t 31)), on_ (.st 3 (.t 5) (.t 34))])
 .ret))))
abbrev n_shelf_do : Nat := 121
theorem F_shelf_do : Fun Tryz.prog n_shelf_do 35 c_shelf_do [.l true 3 4, .l true 3 5] := ⟨⟨Tryz.f121, _, Tryz.func121, by kernel_rfl, rfl, rfl, by kernel_rfl, by kernel_rfl⟩⟩
def c_shelf_done : C :=
 (.seq (.reg false [oo 2 (.box 77 3 (.t 0)), oo 3 (.box 130 5 (.t 1)), oo 4 (.alloc 77 3 [.slice none 0 0, .slice none 0 0, .int .i64 0])])
 (.seq (.reg false [oo 11 (.fa 1 (.t 2)), oo 12 (.ld false 1 (.t 11)), oo 13 (.fa 0 (.t 3)), oo 14 (.ld false 1 (.t 13)), oo 15 (.call (kf 167) [(.t 12), (.t 14), (kf 168)]), om 10 15, oo 16 (.ex (.t 10) 0), oo 17 (.ex (.t 10) 1), om 5 16, om 6 17])
 (.seq (.seq (.reg false [om 18 6])
 (.cond (.t 18)
 (.seq (.reg false [oo 19 (.fa 1 (.t 2)), oo 20 (.ld false 1 (.t 19)), om 21 5, oo 22 (.ld true 5 (.t 3)), oo 23 (.ia 5 (.t 20) (.t 21)), on_ (.st 5 (.t 23) (.t 22))])
 (.seq (.reg false [oo 24 (.ld true 3 (.t 2)), on_ (.st 3 (.t 4) (.t 24))])
 .ret))
 .skip))
 (.seq (.reg false [oo 25 (.fa 1 (.t 2)), oo 26 (.ld false 1 (.t 25)), om 27 5, oo 28 (.ld true 5 (.t 3)), oo 29 (.bsl 130 5 1 [.int .i64 0, .int .i64 0, .int .i64 0, .bool false, .int .i64 0] [(0, (.t 28))]), oo 30 (.call (kf 170) [(.t 26), (.t 27), (.t 29)]), oo 31 (.fa 1 (.t 2)), on_ (.st 1 (.t 31) (.t 30))])
 (.seq (.seq (.reg false [oo 32 (.fa 1 (.t 2)), oo 33 (.ld false 1 (.t 32)), oo 34 (.len (.t 33)), oo 35 (.bin .gtr (.t 34) (ki 8))])
 (.cond (.t 35)
 (.seq (.reg false [oo 7 (.mv (ki (-1)))])
 (.seq (.seq (.reg false [oo 36 (.fa 1 (.t 2)), oo 37 (.ld false 1 (.t 36)), oo 38 (.len (.t 37)), oo 39 (.mv (ki 0))])
 (.block 0 (.loop (.seq (.reg false [oo 40 (.bin .lss (.t 39) (.t 38))])
 (.seq (.cond (.t 40)
 .skip
 (.exit 0))
 (.seq (.block 1 (.seq (.reg false [om 41 39, oo 42 (.ia 5 (.t 37) (.t 39)), oo 43 (.ld true 5 (.t 42)), oo 9 (.alloc 130 5 [.int .i64 0, .int .i64 0, .int .i64 0, .bool false, .int .i64 0]), om 8 41, on_ (.st 5 (.t 9) (.t 43))])
 (.seq (.reg true [oo 44 (.fa 0 (.t 9)), oo 45 (.ld false 1 (.t 44)), oo 46 (.fa 0 (.t 3)), oo 47 (.ld false 1 (.t 46)), oo 48 (.bin .neq (.t 45) (.t 47)), om 49 48, og 50 49 true (.mv (.t 7)), og 51 49 true (.bin .lss (.t 50) (ki 0)), og 52 49 true (.mv (.t 51)), og 53 52 false (.fa 1 (.t 9)), og 54 52 false (.ld false 1 (.t 53)), og 55 52 false (.fa 1 (.t 2)), og 56 52 false (.ld false 1 (.t 55)), og 57 52 false (.mv (.t 7)), og 58 52 false (.ia 5 (.t 56) (.t 57)), og 59 52 false (.fa 1 (.t 58)), og 60 52 false (.ld false 1 (.t 59)), og 61 52 false (.bin .lss (.t 54) (.t 60)), og 62 49 true (.pick (.t 52) (kb true) (.t 61)), oo 63 (.pick (.t 49) (.t 62) (kb false))])
 (.cond (.t 63)
 (.reg false [om 64 8, om 7 64])
 .skip))))
 (.reg false [oo 65 (.bin .add (.t 39) (ki 1)), om 39 65])))))))
 (.reg false [oo 66 (.fa 1 (.t 2)), oo 67 (.ld false 1 (.t 66)), om 68 7, om 69 7, oo 70 (.bin .add (.t 69) (ki 1)), oo 71 (.call (kf 171) [(.t 67), (.t 68), (.t 70)]), oo 72 (.fa 1 (.t 2)), on_ (.st 1 (.t 72) (.t 71))])))
 .skip))
 (.seq (.reg false [oo 73 (.ld true 3 (.t 2)), on_ (.st 3 (.t 4) (.t 73))])
 .ret))))))
abbrev n_shelf_done : Nat := 122
theorem F_shelf_done : Fun Tryz.prog n_shelf_done 74 c_shelf_done [.l true 3 4] := ⟨⟨Tryz.f122, _, Tryz.func122, by kernel_rfl, rfl, rfl, by kernel_rfl, by kernel_rfl⟩⟩
def c_shelf_series : C :=
 (.seq (.reg false [oo 2 (.mv (kb false))])
 (.seq (.reg false [om 8 0, oo 9 (.call (kf 90) [(.t 8)]), om 7 9, oo 10 (.ex (.t 7) 0), oo 11 (.ex (.t 7) 1), oo 3 (.alloc 100 2 [.string ⟨#[]⟩, .slice none 0 0]), on_ (.st 2 (.t 3) (.t 10)), om 4 11])
 (.seq (.reg false [oo 13 (.ld true 2 (.t 3)), oo 14 (.call (kf 91) [(.t 13)]), om 12 14, oo 15 (.ex (.t 12) 0), oo 16 (.ex (.t 12) 1), om 5 15, om 6 16])
 (.seq (.reg false [om 17 4, oo 18 (.bin .eql (.t 17) (ki 0)), om 19 18, og 20 19 true (.mv (.t 5)), og 21 19 true (.mv (.t 0)), og 22 19 true (.bin .eql (.t 20) (.t 21)), oo 23 (.pick (.t 19) (.t 22) (kb false)), om 2 23])
 .ret))))
abbrev n_shelf_series : Nat := 158
theorem F_shelf_series : Fun Tryz.prog n_shelf_series 24 c_shelf_series [.t 2] := ⟨⟨Tryz.f158, _, Tryz.func158, by kernel_rfl, rfl, rfl, by kernel_rfl, by kernel_rfl⟩⟩
def c_block_Check : C :=
 (.seq (.reg false [oo 2 (.mv (ki 0))])
 (.seq (.seq (.reg false [om 5 0, oo 6 (.len (.t 5)), oo 7 (.bin .gtr (.t 6) (ki 64))])
 (.cond (.t 7)
 (.seq (.reg false [oo 2 (.mv (ki 1))])
 .ret)
 .skip))
 (.seq (.seq (.reg false [om 8 0, oo 9 (.len (.t 8)), oo 10 (.mv (ki 0))])
 (.block 0 (.loop (.seq (.reg false [oo 11 (.bin .lss (.t 10) (.t 9))])
 (.seq (.cond (.t 11)
 .skip
 (.exit 0))
 (.seq (.block 1 (.seq (.reg false [om 12 10, oo 13 (.ia 2 (.t 8) (.t 10)), oo 14 (.ld true 2 (.t 13)), oo 4 (.alloc 63 2 [.int .i64 0, .int .i64 0]), om 3 12, on_ (.st 2 (.t 4) (.t 14))])
 (.seq (.reg true [oo 15 (.fa 0 (.t 4)), oo 16 (.ld false 1 (.t 15)), oo 17 (.bin .lss (.t 16) (ki 0)), om 18 17, og 19 18 false (.fa 0 (.t 4)), og 20 18 false (.ld false 1 (.t 19)), og 21 18 false (.bin .gtr (.t 20) (ki 1099511627776)), oo 22 (.pick (.t 18) (kb true) (.t 21)), om 23 22, og 24 23 false (.fa 1 (.t 4)), og 25 23 false (.ld false 1 (.t 24)), og 26 23 false (.bin .lss (.t 25) (ki (-1099511627776))), oo 27 (.pick (.t 23) (kb true) (.t 26)), om 28 27, og 29 28 false (.fa 1 (.t 4)), og 30 28 false (.ld false 1 (.t 29)), og 31 28 false (.bin .gtr (.t 30) (ki 1099511627776)), oo 32 (.pick (.t 28) (kb true) (.t 31)), om 33 32, og 34 33 false (.mv (.t 3)), og 35 33 false (.bin .gtr (.t 34) (ki 0)), og 36 33 false (.mv (.t 35)), og 37 36 true (.fa 0 (.t 4)), og 38 36 true (.ld false 1 (.t 37)), og 39 36 true (.mv (.t 0)), og 40 36 true (.mv (.t 3)), og 41 36 true (.bin .sub (.t 40) (ki 1)), og 42 36 true (.ia 2 (.t 39) (.t 41)), og 43 36 true (.fa 0 (.t 42)), og 44 36 true (.ld false 1 (.t 43)), og 45 36 true (.bin .leq (.t 38) (.t 44)), og 46 33 false (.pick (.t 36) (.t 45) (kb false)), oo 47 (.pick (.t 33) (kb true) (.t 46))])
 (.cond (.t 47)
 (.seq (.reg false [oo 2 (.mv (ki 1))])
 .ret)
 .skip))))
 (.reg false [oo 48 (.bin .add (.t 10) (ki 1)), om 10 48])))))))
 (.seq (.reg false [oo 2 (.mv (ki 0))])
 .ret))))
abbrev n_block_Check : Nat := 159
theorem F_block_Check : Fun Tryz.prog n_block_Check 49 c_block_Check [.t 2] := ⟨⟨Tryz.f159, _, Tryz.func159, by kernel_rfl, rfl, rfl, by kernel_rfl, by kernel_rfl⟩⟩
def c_windroseref14_note : C :=
 (.seq (.reg false [oo 3 (.box 130 5 (.t 1)), oo 4 (.mv (.k (.one (.c (.v (.slice none 0 0))))))])
 (.seq (.reg false [oo 11 (.bsl 130 5 0 [.int .i64 0, .int .i64 0, .int .i64 0, .bool false, .int .i64 0] []), om 5 11])
 (.seq (.reg false [oo 6 (.mv (kb false))])
 (.seq (.reg false [oo 7 (.mv (ki (-1)))])
 (.seq (.reg false [oo 8 (.mv (kb false))])
 (.seq (.seq (.reg false [oo 9 (.mv (ki 0))])
 (.block 0 (.loop (.seq (.seq (.reg false [om 12 9, om 13 0, oo 14 (.len (.t 13)), oo 15 (.bin .lss (.t 12) (.t 14))])
 (.cond (.t 15)
 .skip
 (.exit 0)))
 (.seq (.block 1 (.seq (.reg true [om 18 8, om 19 18, og 20 19 false (.mv (.t 0)), og 21 19 false (.mv (.t 9)), og 22 19 false (.ia 5 (.t 20) (.t 21)), og 23 19 false (.fa 0 (.t 22)), og 24 19 false (.ld false 1 (.t 23)), og 25 19 false (.fa 0 (.t 3)), og 26 19 false (.ld false 1 (.t 25)), og 27 19 false (.bin .eql (.t 24) (.t 26)), oo 28 (.pick (.t 19) (kb true) (.t 27)), om 8 28])
 (.seq (.reg true [om 29 7, oo 30 (.bin .lss (.t 29) (ki 0)), om 31 30, og 32 31 false (.mv (.t 0)), og 33 31 false (.mv (.t 9)), og 34 31 false (.ia 5 (.t 32) (.t 33)), og 35 31 false (.fa 1 (.t 34)), og 36 31 false (.ld false 1 (.t 35)), og 37 31 false (.mv (.t 0)), og 38 31 false (.mv (.t 7)), og 39 31 false (.ia 5 (.t 37) (.t 38)), og 40 31 false (.fa 1 (.t 39)), og 41 31 false (.ld false 1 (.t 40)), og 42 31 false (.bin .lss (.t 36) (.t 41)), oo 43 (.pick (.t 31) (kb true) (.t 42))])
 (.cond (.t 43)
 (.reg false [om 44 9, om 7 44])
 .skip))))
 (.reg false [om 16 9, oo 17 (.bin .add (.t 16) (ki 1)), om 9 17]))))))
 (.seq (.seq (.reg false [oo 10 (.mv (ki 0))])
 (.block 2 (.loop (.seq (.seq (.reg false [om 45 10, om 46 0, oo 47 (.len (.t 46)), oo 48 (.bin .lss (.t 45) (.t 47))])
 (.cond (.t 48)
 .skip
 (.exit 2)))
 (.seq (.block 3 (.seq (.seq (.reg true [om 51 6, oo 52 (.un .not (.t 51)), om 53 52, og 54 53 true (.mv (.t 0)), og 55 53 true (.mv (.t 10)), og 56 53 true (.ia 5 (.t 54) (.t 55)), og 57 53 true (.fa 0 (.t 56)), og 58 53 true (.ld false 1 (.t 57)), og 59 53 true (.fa 0 (.t 3)), og 60 53 true (.ld false 1 (.t 59)), og 61 53 true (.bin .geq (.t 58) (.t 60)), oo 62 (.pick (.t 53) (.t 61) (kb false))])
 (.cond (.t 62)
 (.seq (.reg false [om 63 5, oo 64 (.ld true 5 (.t 3)), oo 65 (.bsl 130 5 1 [.int .i64 0, .int .i64 0, .int .i64 0, .bool false, .int .i64 0] [(0, (.t 64))]), oo 66 (.app 130 5 40 [.int .i64 0, .int .i64 0, .int .i64 0, .bool false, .int .i64 0] (.t 63) (.t 65)), om 5 66])
 (.reg false [oo 6 (.mv (kb true))]))
 .skip))
 (.seq (.reg true [om 67 0, om 68 10, oo 69 (.ia 5 (.t 67) (.t 68)), oo 70 (.fa 0 (.t 69)), oo 71 (.ld false 1 (.t 70)), oo 72 (.fa 0 (.t 3)), oo 73 (.ld false 1 (.t 72)), oo 74 (.bin .neq (.t 71) (.t 73)), om 75 74, og 76 75 true (.mv (.t 8)), og 77 75 true (.mv (.t 76)), og 78 77 false (.mv (.t 0)), og 79 77 false (.len (.t 78)), og 80 77 false (.bin .lss (.t 79) (ki 8)), og 81 75 true (.pick (.t 77) (kb true) (.t 80)), og 82 75 true (.mv (.t 81)), og 83 82 false (.mv (.t 10)), og 84 82 false (.mv (.t 7)), og 85 82 false (.bin .neq (.t 83) (.t 84)), og 86 75 true (.pick (.t 82) (kb true) (.t 85)), oo 87 (.pick (.t 75) (.t 86) (kb false))])
 (.cond (.t 87)
 (.reg false [om 88 5, om 89 0, om 90 10, oo 91 (.ia 5 (.t 89) (.t 90)), oo 92 (.ld true 5 (.t 91)), oo 93 (.bsl 130 5 1 [.int .i64 0, .int .i64 0, .int .i64 0, .bool false, .int .i64 0] [(0, (.t 92))]), oo 94 (.app 130 5 40 [.int .i64 0, .int .i64 0, .int .i64 0, .bool false, .int .i64 0] (.t 88) (.t 93)), om 5 94])
 .skip))))
 (.reg false [om 49 10, oo 50 (.bin .add (.t 49) (ki 1)), om 10 50]))))))
 (.seq (.seq (.reg false [om 95 6, oo 96 (.un .not (.t 95))])
 (.cond (.t 96)
 (.reg false [om 97 5, oo 98 (.ld true 5 (.t 3)), oo 99 (.bsl 130 5 1 [.int .i64 0, .int .i64 0, .int .i64 0, .bool false, .int .i64 0] [(0, (.t 98))]), oo 100 (.app 130 5 40 [.int .i64 0, .int .i64 0, .int .i64 0, .bool false, .int .i64 0] (.t 97) (.t 99)), om 5 100])
 .skip))
 (.seq (.reg false [om 101 5, om 4 101])
 .ret)))))))))
abbrev n_windroseref14_note : Nat := 74
theorem F_windroseref14_note : Fun Tryz.prog n_windroseref14_note 102 c_windroseref14_note [.t 4] := ⟨⟨Tryz.f74, _, Tryz.func74, by kernel_rfl, rfl, rfl, by kernel_rfl, by kernel_rfl⟩⟩
def c_windroseref14_op : C :=
 (.seq (.reg false [oo 2 (.box 77 3 (.t 0)), oo 3 (.box 65 7 (.t 1)), oo 4 (.alloc 77 3 [.slice none 0 0, .slice none 0 0, .int .i64 0]), oo 5 (.alloc 67 3 [.int .i64 0, .bool false, .int .i64 0])])
 (.seq (.reg false [oo 15 (.ld true 3 (.t 2)), oo 16 (.fa 1 (.t 3)), oo 17 (.ld false 1 (.t 16)), oo 18 (.call (kf 151) [(.t 15), (.t 17)]), om 6 18])
 (.seq (.seq (.reg false [oo 19 (.fa 0 (.t 3)), oo 20 (.ld false 1 (.t 19))])
 (.block 0 (.seq (.reg false [oo 22 (.bin .eql (.t 20) (ki 1)), om 21 22])
 (.cond (.t 21)
 (.seq (.seq (.reg false [oo 23 (.fa 2 (.t 3)), oo 24 (.fa 0 (.t 23)), oo 25 (.ld false 1 (.t 24)), oo 26 (.fa 2 (.t 2)), oo 27 (.ld false 1 (.t 26)), oo 28 (.bin .lss (.t 25) (.t 27))])
 (.cond (.t 28)
 (.seq (.reg false [oo 29 (.ld true 3 (.t 2)), oo 30 (.bld [.int .i64 0, .bool false, .int .i64 0] [(0, 1, (ki 9))]), on_ (.st 3 (.t 4) (.t 29)), on_ (.st 3 (.t 5) (.t 30))])
 .ret)
 .skip))
 (.seq (.seq (.reg false [om 31 6, oo 32 (.len (.t 31)), oo 33 (.bin .eql (.t 32) (ki 0)), om 34 33, og 35 34 true (.fa 0 (.t 2)), og 36 34 true (.ld false 1 (.t 35)), og 37 34 true (.len (.t 36)), og 38 34 true (.bin .eql (.t 37) (ki 16)), oo 39 (.pick (.t 34) (.t 38) (kb false))])
 (.cond (.t 39)
 (.seq (.reg false [oo 40 (.ld true 3 (.t 2)), oo 41 (.bld [.int .i64 0, .bool false, .int .i64 0] [(0, 1, (ki 6))]), on_ (.st 3 (.t 4) (.t 40)), on_ (.st 3 (.t 5) (.t 41))])
 .ret)
 .skip))
 (.seq (.reg false [om 43 6, oo 44 (.fa 2 (.t 3)), oo 45 (.ld true 2 (.t 44)), oo 46 (.call (kf 152) [(.t 43), (.t 45)]), om 42 46, oo 47 (.ex (.t 42) 0), oo 48 (.ex (.t 42) 1), om 7 47, om 8 48])
 (.seq (.seq (.reg false [om 49 8, oo 50 (.bin .eql (.t 49) (ki 7))])
 (.cond (.t 50)
 (.seq (.reg false [oo 51 (.ld true 3 (.t 2)), oo 52 (.bld [.int .i64 0, .bool false, .int .i64 0] []), on_ (.st 3 (.t 4) (.t 51)), on_ (.st 3 (.t 5) (.t 52))])
 .ret)
 .skip))
 (.seq (.seq (.reg false [om 53 8, oo 54 (.bin .neq (.t 53) (ki 0))])
 (.cond (.t 54)
 (.seq (.reg false [oo 55 (.ld true 3 (.t 2)), om 56 8, oo 57 (.bld [.int .i64 0, .bool false, .int .i64 0] [(0, 1, (.t 56))]), on_ (.st 3 (.t 4) (.t 55)), on_ (.st 3 (.t 5) (.t 57))])
 .ret)
 .skip))
 (.seq (.reg false [oo 58 (.fa 0 (.t 2)), oo 59 (.ld false 1 (.t 58)), oo 60 (.fa 1 (.t 3)), oo 61 (.ld false 1 (.t 60)), om 62 7, oo 63 (.call (kf 153) [(.t 59), (.t 61), (.t 62)]), oo 64 (.fa 0 (.t 2)), on_ (.st 1 (.t 64) (.t 63))])
 (.seq (.reg false [oo 65 (.ld true 3 (.t 2)), oo 66 (.bld [.int .i64 0, .bool false, .int .i64 0] [(1, 1, (kb true))]), on_ (.st 3 (.t 4) (.t 65)), on_ (.st 3 (.t 5) (.t 66))])
 .ret)))))))
 (.seq (.reg false [oo 68 (.bin .eql (.t 20) (ki 2)), om 67 68])
 (.cond (.t 67)
 (.seq (.seq (.reg false [oo 69 (.fa 4 (.t 3)), oo 70 (.ld false 1 (.t 69)), oo 71 (.fa 2 (.t 2)), oo 72 (.ld false 1 (.t 71)), oo 73 (.bin .lss (.t 70) (.t 72))])
 (.cond (.t 73)
 (.seq (.reg false [oo 74 (.ld true 3 (.t 2)), oo 75 (.bld [.int .i64 0, .bool false, .int .i64 0] [(0, 1, (ki 9))]), on_ (.st 3 (.t 4) (.t 74)), on_ (.st 3 (.t 5) (.t 75))])
 .ret)
 .skip))
 (.seq (.reg false [oo 76 (.fa 0 (.t 2)), oo 77 (.ld false 1 (.t 76)), om 9 77])
 (.seq (.seq (.reg false [oo 10 (.mv (ki 0))])
 (.block 1 (.loop (.seq (.seq (.reg false [om 78 10, oo 79 (.fa 0 (.t 2)), oo 80 (.ld false 1 (.t 79)), oo 81 (.len (.t 80)), oo 82 (.bin .lss (.t 78) (.t 81))])
 (.cond (.t 82)
 .skip
 (.exit 1)))
 (.seq (.block 2 (.reg true [om 85 9, oo 86 (.fa 0 (.t 2)), oo 87 (.ld false 1 (.t 86)), om 88 10, oo 89 (.ia 2 (.t 87) (.t 88)), oo 90 (.fa 0 (.t 89)), oo 91 (.ld false 1 (.t 90)), oo 92 (.fa 0 (.t 2)), oo 93 (.ld false 1 (.t 92)), om 94 10, oo 95 (.ia 2 (.t 93) (.t 94)), oo 96 (.fa 1 (.t 95)), oo 97 (.ld false 1 (.t 96)), oo 98 (.fa 4 (.t 3)), oo 99 (.ld false 1 (.t 98)), oo 100 (.call (kf 154) [(.t 97), (.t 99)]), oo 101 (.call (kf 153) [(.t 85), (.t 91), (.t 100)]), om 9 101]))
 (.reg false [om 83 10, oo 84 (.bin .add (.t 83) (ki 1)), om 10 84]))))))
 (.seq (.reg false [om 102 9, oo 103 (.fa 1 (.t 2)), oo 104 (.ld false 1 (.t 103)), oo 105 (.fa 4 (.t 3)), oo 106 (.ld false 1 (.t 105)), oo 107 (.bld [.slice none 0 0, .slice none 0 0, .int .i64 0] [(0, 1, (.t 102)), (1, 1, (.t 104)), (2, 1, (.t 106))]), oo 108 (.bld [.int .i64 0, .bool false, .int .i64 0] []), on_ (.st 3 (.t 4) (.t 107)), on_ (.st 3 (.t 5) (.t 108))])
 .ret))))
 (.seq (.reg false [oo 110 (.bin .eql (.t 20) (ki 4)), om 109 110])
 (.cond (.t 109)
 (.seq (.reg false [om 112 6, oo 113 (.fa 4 (.t 3)), oo 114 (.ld false 1 (.t 113)), oo 115 (.call (kf 155) [(.t 112), (.t 114)]), om 111 115, oo 116 (.ex (.t 111) 0), oo 117 (.ex (.t 111) 1), oo 11 (.alloc 63 2 [.int .i64 0, .int .i64 0]), on_ (.st 2 (.t 11) (.t 116)), om 12 117])
 (.seq (.rgx [[], [], [], [2], [1, 3, 2], [0], [4, 1, 3, 2, 5, 0]] [oo 118 (.ld true 3 (.t 2)), om 119 12, oo 120 (.fa 1 (.t 11)), oo 121 (.ld false 1 (.t 120)), oo 122 (.bld [.int .i64 0, .bool false, .int .i64 0] [(1, 1, (.t 119)), (2, 1, (.t 121))]), on_ (.st 3 (.t 4) (.t 118)), on_ (.st 3 (.t 5) (.t 122))])
 .ret))
 .skip))))))))
 (.seq (.reg true [oo 124 (.fa 6 (.t 3)), oo 125 (.ld false 1 (.t 124)), om 126 6, oo 127 (.fa 4 (.t 3)), oo 128 (.ld false 1 (.t 127)), oo 129 (.fa 5 (.t 3)), oo 130 (.ld false 1 (.t 129)), oo 131 (.call (kf 157) [(.t 126), (.t 128), (.t 130)]), oo 132 (.call (kf 156) [(.t 125), (.t 131)]), om 123 132, oo 133 (.ex (.t 123) 0), oo 134 (.ex (.t 123) 1), om 13 133, om 14 134])
 (.seq (.reg false [oo 135 (.ld true 3 (.t 2)), om 136 14, om 137 13, oo 138 (.bld [.int .i64 0, .bool false, .int .i64 0] [(1, 1, (.t 136)), (2, 1, (.t 137))]), on_ (.st 3 (.t 4) (.t 135)), on_ (.st 3 (.t 5) (.t 138))])
 .ret)))))
abbrev n_windroseref14_op : Nat := 112
theorem F_windroseref14_op : Fun Tryz.prog n_windroseref14_op 139 c_windroseref14_op [.l true 3 4, .l true 3 5] := ⟨⟨Tryz.f112, _, Tryz.func112, by kernel_rfl, rfl, rfl, by kernel_rfl, by kernel_rfl⟩⟩
def c_slices_Clone_api_Line_api_Line : C :=
 (.seq (.reg false [oo 2 (.mv (.k (.one (.c (.v (.slice none 0 0))))))])
 (.seq (.seq (.reg false [om 3 0, oo 4 (.eqb false (.t 3) (.k (.one (.c (.v (.slice none 0 0))))))])
 (.cond (.t 4)
 (.seq (.reg false [oo 2 (.mv (.k (.one (.c (.v (.slice none 0 0))))))])
 .ret)
 .skip))
 (.seq (.reg false [oo 5 (.bsl 136 2 0 [.string ⟨#[]⟩, .slice none 0 0] []), om 6 0, oo 7 (.app 136 2 40 [.string ⟨#[]⟩, .slice none 0 0] (.t 5) (.t 6)), om 2 7])
 .ret)))
abbrev n_slices_Clone_api_Line_api_Line : Nat := 161
theorem F_slices_Clone_api_Line_api_Line : Fun Tryz.prog n_slices_Clone_api_Line_api_Line 8 c_slices_Clone_api_Line_api_Line [.t 2] := ⟨⟨Tryz.f161, _, Tryz.func161, by kernel_rfl, rfl, rfl, by kernel_rfl, by kernel_rfl⟩⟩
def c_slices_Clone_api_Done_api_Done : C :=
 (.seq (.reg false [oo 2 (.mv (.k (.one (.c (.v (.slice none 0 0))))))])
 (.seq (.seq (.reg false [om 3 0, oo 4 (.eqb false (.t 3) (.k (.one (.c (.v (.slice none 0 0))))))])
 (.cond (.t 4)
 (.seq (.reg false [oo 2 (.mv (.k (.one (.c (.v (.slice none 0 0))))))])
 .ret)
 .skip))
 (.seq (.reg false [oo 5 (.bsl 130 5 0 [.int .i64 0, .int .i64 0, .int .i64 0, .bool false, .int .i64 0] []), om 6 0, oo 7 (.app 130 5 40 [.int .i64 0, .int .i64 0, .int .i64 0, .bool false, .int .i64 0] (.t 5) (.t 6)), om 2 7])
 .ret)))
abbrev n_slices_Clone_api_Done_api_Done : Nat := 162
theorem F_slices_Clone_api_Done_api_Done : Fun Tryz.prog n_slices_Clone_api_Done_api_Done 8 c_slices_Clone_api_Done_api_Done [.t 2] := ⟨⟨Tryz.f162, _, Tryz.func162, by kernel_rfl, rfl, rfl, by kernel_rfl, by kernel_rfl⟩⟩
def c_slices_Clone_api_Sample_api_Sample : C :=
 (.seq (.reg false [oo 2 (.mv (.k (.one (.c (.v (.slice none 0 0))))))])
 (.seq (.seq (.reg false [om 3 0, oo 4 (.eqb false (.t 3) (.k (.one (.c (.v (.slice none 0 0))))))])
 (.cond (.t 4)
 (.seq (.reg false [oo 2 (.mv (.k (.one (.c (.v (.slice none 0 0))))))])
 .ret)
 .skip))
 (.seq (.reg false [oo 5 (.bsl 63 2 0 [.int .i64 0, .int .i64 0] []), om 6 0, oo 7 (.app 63 2 16 [.int .i64 0, .int .i64 0] (.t 5) (.t 6)), om 2 7])
 .ret)))
abbrev n_slices_Clone_api_Sample_api_Sample : Nat := 163
theorem F_slices_Clone_api_Sample_api_Sample : Fun Tryz.prog n_slices_Clone_api_Sample_api_Sample 8 c_slices_Clone_api_Sample_api_Sample [.t 2] := ⟨⟨Tryz.f163, _, Tryz.func163, by kernel_rfl, rfl, rfl, by kernel_rfl, by kernel_rfl⟩⟩
def c_shelf_write : C :=
 (.seq (.reg false [oo 2 (.box 77 3 (.t 0)), oo 3 (.box 65 7 (.t 1)), oo 4 (.alloc 77 3 [.slice none 0 0, .slice none 0 0, .int .i64 0]), oo 5 (.alloc 67 3 [.int .i64 0, .bool false, .int .i64 0])])
 (.seq (.reg false [oo 11 (.ld true 3 (.t 2)), oo 12 (.fa 1 (.t 3)), oo 13 (.ld false 1 (.t 12)), oo 14 (.call (kf 190) [(.t 11), (.t 13)]), om 10 14, oo 15 (.ex (.t 10) 0), oo 16 (.ex (.t 10) 1), om 6 15, om 7 16])
 (.seq (.block 0 (.seq (.reg false [oo 18 (.fa 2 (.t 3)), oo 19 (.fa 0 (.t 18)), oo 20 (.ld false 1 (.t 19)), oo 21 (.fa 2 (.t 2)), oo 22 (.ld false 1 (.t 21)), oo 23 (.bin .lss (.t 20) (.t 22)), om 17 23])
 (.cond (.t 17)
 (.seq (.reg false [oo 24 (.ld true 3 (.t 2)), oo 25 (.bld [.int .i64 0, .bool false, .int .i64 0] [(0, 1, (ki 9))]), on_ (.st 3 (.t 4) (.t 24)), on_ (.st 3 (.t 5) (.t 25))])
 .ret)
 (.seq (.reg false [om 27 7, oo 28 (.un .not (.t 27)), om 29 28, og 30 29 true (.fa 0 (.t 2)), og 31 29 true (.ld false 1 (.t 30)), og 32 29 true (.len (.t 31)), og 33 29 true (.bin .eql (.t 32) (ki 16)), oo 34 (.pick (.t 29) (.t 33) (kb false)), om 26 34])
 (.cond (.t 26)
 (.seq (.reg false [oo 35 (.ld true 3 (.t 2)), oo 36 (.bld [.int .i64 0, .bool false, .int .i64 0] [(0, 1, (ki 6))]), on_ (.st 3 (.t 4) (.t 35)), on_ (.st 3 (.t 5) (.t 36))])
 .ret)
 (.seq (.reg false [om 38 7, oo 39 (.un .not (.t 38)), om 37 39])
 (.cond (.t 37)
 (.reg false [oo 40 (.fa 0 (.t 2)), oo 41 (.ld false 1 (.t 40)), om 42 6, oo 43 (.fa 1 (.t 3)), oo 44 (.ld false 1 (.t 43)), oo 45 (.bld [.string ⟨#[]⟩, .slice none 0 0] [(0, 1, (.t 44))]), oo 46 (.bsl 136 2 1 [.string ⟨#[]⟩, .slice none 0 0] [(0, (.t 45))]), oo 47 (.call (kf 191) [(.t 41), (.t 42), (.t 46)]), oo 48 (.fa 0 (.t 2)), on_ (.st 1 (.t 48) (.t 47))])
 .skip)))))))
 (.seq (.reg true [oo 50 (.fa 0 (.t 2)), oo 51 (.ld false 1 (.t 50)), om 52 6, oo 53 (.ia 2 (.t 51) (.t 52)), oo 54 (.fa 1 (.t 53)), oo 55 (.ld false 1 (.t 54)), oo 56 (.fa 2 (.t 3)), oo 57 (.ld true 2 (.t 56)), oo 58 (.call (kf 192) [(.t 55), (.t 57)]), om 49 58, oo 59 (.ex (.t 49) 0), oo 60 (.ex (.t 49) 1), om 8 59, om 9 60])
 (.seq (.reg false [oo 61 (.fa 0 (.t 2)), oo 62 (.ld false 1 (.t 61)), om 63 6, om 64 8, oo 65 (.ia 2 (.t 62) (.t 63)), oo 66 (.fa 1 (.t 65)), on_ (.st 1 (.t 66) (.t 64))])
 (.seq (.seq (.reg false [om 67 9, oo 68 (.bin .eql (.t 67) (ki 7))])
 (.cond (.t 68)
 (.seq (.reg false [oo 69 (.ld true 3 (.t 2)), oo 70 (.bld [.int .i64 0, .bool false, .int .i64 0] []), on_ (.st 3 (.t 4) (.t 69)), on_ (.st 3 (.t 5) (.t 70))])
 .ret)
 .skip))
 (.seq (.reg false [oo 71 (.ld true 3 (.t 2)), om 72 9, om 73 9, oo 74 (.bin .eql (.t 73) (ki 0)), oo 75 (.bld [.int .i64 0, .bool false, .int .i64 0] [(0, 1, (.t 72)), (1, 1, (.t 74))]), on_ (.st 3 (.t 4) (.t 71)), on_ (.st 3 (.t 5) (.t 75))])
 .ret)))))))
abbrev n_shelf_write : Nat := 164
theorem F_shelf_write : Fun Tryz.prog n_shelf_write 76 c_shelf_write [.l true 3 4, .l true 3 5] := ⟨⟨Tryz.f164, _, Tryz.func164, by kernel_rfl, rfl, rfl, by kernel_rfl, by kernel_rfl⟩⟩
def c_shelf_trim : C :=
 (.seq (.reg false [oo 2 (.box 77 3 (.t 0)), oo 4 (.alloc 77 3 [.slice none 0 0, .slice none 0 0, .int .i64 0]), oo 5 (.alloc 67 3 [.int .i64 0, .bool false, .int .i64 0])])
 (.seq (.seq (.reg false [om 8 1, oo 9 (.fa 2 (.t 2)), oo 10 (.ld false 1 (.t 9)), oo 11 (.bin .lss (.t 8) (.t 10))])
 (.cond (.t 11)
 (.seq (.reg false [oo 12 (.ld true 3 (.t 2)), oo 13 (.bld [.int .i64 0, .bool false, .int .i64 0] [(0, 1, (ki 9))]), on_ (.st 3 (.t 4) (.t 12)), on_ (.st 3 (.t 5) (.t 13))])
 .ret)
 .skip))
 (.seq (.reg false [om 14 1, oo 15 (.fa 2 (.t 2)), on_ (.st 1 (.t 15) (.t 14))])
 (.seq (.seq (.reg false [oo 16 (.fa 0 (.t 2)), oo 17 (.ld false 1 (.t 16)), oo 18 (.len (.t 17)), oo 19 (.mv (ki 0))])
 (.block 0 (.loop (.seq (.reg false [oo 20 (.bin .lss (.t 19) (.t 18))])
 (.seq (.cond (.t 20)
 .skip
 (.exit 0))
 (.seq (.block 1 (.seq (.reg false [om 21 19, oo 22 (.ia 2 (.t 17) (.t 19)), oo 23 (.ld true 2 (.t 22)), oo 7 (.alloc 136 2 [.string ⟨#[]⟩, .slice none 0 0]), om 6 21, on_ (.st 2 (.t 7) (.t 23))])
 (.reg true [oo 24 (.fa 0 (.t 2)), oo 25 (.ld false 1 (.t 24)), om 26 6, oo 27 (.fa 1 (.t 7)), oo 28 (.ld false 1 (.t 27)), om 29 1, oo 30 (.call (kf 193) [(.t 28), (.t 29)]), oo 31 (.ia 2 (.t 25) (.t 26)), oo 32 (.fa 1 (.t 31)), on_ (.st 1 (.t 32) (.t 30))])))
 (.reg false [oo 33 (.bin .add (.t 19) (ki 1)), om 19 33])))))))
 (.seq (.reg false [oo 34 (.fa 0 (.t 2)), oo 35 (.ld false 1 (.t 34)), oo 36 (.call (kf 194) [(.t 35), (kf 195)]), oo 37 (.fa 0 (.t 2)), on_ (.st 1 (.t 37) (.t 36))])
 (.seq (.reg false [oo 38 (.ld true 3 (.t 2)), oo 39 (.bld [.int .i64 0, .bool false, .int .i64 0] []), on_ (.st 3 (.t 4) (.t 38)), on_ (.st 3 (.t 5) (.t 39))])
 .ret))))))
abbrev n_shelf_trim : Nat := 165
theorem F_shelf_trim : Fun Tryz.prog n_shelf_trim 40 c_shelf_trim [.l true 3 4, .l true 3 5] := ⟨⟨Tryz.f165, _, Tryz.func165, by kernel_rfl, rfl, rfl, by kernel_rfl, by kernel_rfl⟩⟩
def c_shelf_look : C :=
 (.seq (.reg false [oo 2 (.box 77 3 (.t 0)), oo 3 (.box 65 7 (.t 1)), oo 4 (.alloc 67 3 [.int .i64 0, .bool false, .int .i64 0])])
 (.seq (.reg false [oo 5 (.mv (.k (.one (.c (.v (.slice none 0 0))))))])
 (.seq (.seq (.reg false [oo 13 (.ld true 3 (.t 2)), oo 14 (.fa 1 (.t 3)), oo 15 (.ld false 1 (.t 14)), oo 16 (.call (kf 190) [(.t 13), (.t 15)]), om 12 16, oo 17 (.ex (.t 12) 0), oo 18 (.ex (.t 12) 1), om 6 17, om 7 18])
 (.seq (.reg false [om 19 7])
 (.cond (.t 19)
 (.reg false [oo 20 (.fa 0 (.t 2)), oo 21 (.ld false 1 (.t 20)), om 22 6, oo 23 (.ia 2 (.t 21) (.t 22)), oo 24 (.fa 1 (.t 23)), oo 25 (.ld false 1 (.t 24)), om 5 25])
 .skip)))
 (.seq (.seq (.reg false [oo 26 (.fa 0 (.t 3)), oo 27 (.ld false 1 (.t 26)), oo 28 (.bin .eql (.t 27) (ki 4))])
 (.cond (.t 28)
 (.seq (.reg false [om 30 5, oo 31 (.fa 4 (.t 3)), oo 32 (.ld false 1 (.t 31)), oo 33 (.call (kf 196) [(.t 30), (.t 32)]), om 29 33, oo 34 (.ex (.t 29) 0), oo 35 (.ex (.t 29) 1), oo 8 (.alloc 63 2 [.int .i64 0, .int .i64 0]), on_ (.st 2 (.t 8) (.t 34)), om 9 35])
 (.seq (.reg false [om 36 9, oo 37 (.fa 1 (.t 8)), oo 38 (.ld false 1 (.t 37)), oo 39 (.bld [.int .i64 0, .bool false, .int .i64 0] [(1, 1, (.t 36)), (2, 1, (.t 38))]), on_ (.st 3 (.t 4) (.t 39))])
 .ret))
 .skip))
 (.seq (.reg true [oo 41 (.fa 6 (.t 3)), oo 42 (.ld false 1 (.t 41)), om 43 5, oo 44 (.fa 4 (.t 3)), oo 45 (.ld false 1 (.t 44)), oo 46 (.fa 5 (.t 3)), oo 47 (.ld false 1 (.t 46)), oo 48 (.call (kf 198) [(.t 43), (.t 45), (.t 47)]), oo 49 (.call (kf 197) [(.t 42), (.t 48)]), om 40 49, oo 50 (.ex (.t 40) 0), oo 51 (.ex (.t 40) 1), om 10 50, om 11 51])
 (.seq (.reg false [om 52 11, om 53 10, oo 54 (.bld [.int .i64 0, .bool false, .int .i64 0] [(1, 1, (.t 52)), (2, 1, (.t 53))]), on_ (.st 3 (.t 4) (.t 54))])
 .ret))))))
abbrev n_shelf_look : Nat := 166
theorem F_shelf_look : Fun Tryz.prog n_shelf_look 55 c_shelf_look [.l true 3 4] := ⟨⟨Tryz.f166, _, Tryz.func166, by kernel_rfl, rfl, rfl, by kernel_rfl, by kernel_rfl⟩⟩
def c_slices_BinarySearchFunc_api_Done_api_Done_int : C :=
 (.seq (.reg false [oo 6 (.mv (ki 0)), oo 7 (.mv (kb false))])
 (.seq (.reg false [om 12 0, oo 13 (.len (.t 12)), om 8 13])
 (.seq (.reg false [om 14 8, oo 9 (.mv (ki 0)), om 10 14])
 (.seq (.block 0 (.loop (.seq (.seq (.reg false [om 15 9, om 16 10, oo 17 (.bin .lss (.t 15) (.t 16))])
 (.cond (.t 17)
 .skip
 (.exit 0)))
 (.block 1 (.seq (.reg false [om 18 9, om 19 10, oo 20 (.bin .add (.t 18) (.t 19)), oo 21 (.cvi .u64 (.t 20)), oo 22 (.bin .shr (.t 21) (.k (.one (.c (.v (.int .u64 1)))))), oo 23 (.cvi .i64 (.t 22)), om 11 23])
 (.seq (.reg false [om 24 2, om 25 0, om 26 11, oo 27 (.ia 5 (.t 25) (.t 26)), oo 28 (.ld true 5 (.t 27)), om 29 1, oo 30 (.call (.t 24) [(.t 28), (.t 29)]), oo 31 (.bin .lss (.t 30) (ki 0))])
 (.cond (.t 31)
 (.reg false [om 32 11, oo 33 (.bin .add (.t 32) (ki 1)), om 9 33])
 (.reg false [om 34 11, om 10 34]))))))))
 (.seq (.reg false [om 35 9, om 36 9, om 37 8, oo 38 (.bin .lss (.t 36) (.t 37)), om 39 38, og 40 39 true (.mv (.t 2)), og 41 39 true (.mv (.t 0)), og 42 39 true (.mv (.t 9)), og 43 39 true (.ia 5 (.t 41) (.t 42)), og 44 39 true (.ld true 5 (.t 43)), og 45 39 true (.mv (.t 1)), og 46 39 true (.call (.t 40) [(.t 44), (.t 45)]), og 47 39 true (.bin .eql (.t 46) (ki 0)), oo 48 (.pick (.t 39) (.t 47) (kb false)), om 6 35, om 7 48])
 .ret)))))
abbrev n_slices_BinarySearchFunc_api_Done_api_Done_int : Nat := 167
theorem F_slices_BinarySearchFunc_api_Done_api_Done_int : Fun Tryz.prog n_slices_BinarySearchFunc_api_Done_api_Done_int 49 c_slices_BinarySearchFunc_api_Done_api_Done_int [.t 6, .t 7] := ⟨⟨Tryz.f167, _, Tryz.func167, by kernel_rfl, rfl, rfl, by kernel_rfl, by kernel_rfl⟩⟩
def c_shelf_done_1 : C :=
 (.seq (.reg false [oo 2 (.box 130 5 (.t 0)), oo 4 (.mv (ki 0))])
 (.seq (.reg false [oo 5 (.fa 0 (.t 2)), oo 6 (.ld false 1 (.t 5)), om 7 1, oo 8 (.call (kf 169) [(.t 6), (.t 7)]), om 4 8])
 .ret))
abbrev n_shelf_done_1 : Nat := 168
theorem F_shelf_done_1 : Fun Tryz.prog n_shelf_done_1 9 c_shelf_done_1 [.t 4] := ⟨⟨Tryz.f168, _, Tryz.func168, by kernel_rfl, rfl, rfl, by kernel_rfl, by kernel_rfl⟩⟩
def c_slices_Insert_api_Done_api_Done : C :=
 (.seq (.reg false [oo 6 (.mv (.k (.one (.c (.v (.slice none 0 0))))))])
 (.seq (.reg false [om 10 0, om 11 1, oo 12 (.slc 5 (.t 10) (some (.t 11)) none)])
 (.seq (.reg false [om 13 2, oo 14 (.len (.t 13)), om 7 14])
 (.seq (.seq (.reg false [om 15 7, oo 16 (.bin .eql (.t 15) (ki 0))])
 (.cond (.t 16)
 (.seq (.reg false [om 17 0, om 6 17])
 .ret)
 .skip))
 (.seq (.reg false [om 18 0, oo 19 (.len (.t 18)), om 8 19])
 (.seq (.seq (.reg false [om 20 1, om 21 8, oo 22 (.bin .eql (.t 20) (.t 21))])
 (.cond (.t 22)
 (.seq (.reg false [om 23 0, om 24 2, oo 25 (.app 130 5 40 [.int .i64 0, .int .i64 0, .int .i64 0, .bool false, .int .i64 0] (.t 23) (.t 24)), om 6 25])
 .ret)
 .skip))
 (.seq (.seq (.reg false [om 26 8, om 27 7, oo 28 (.bin .add (.t 26) (.t 27)), om 29 0, oo 30 (.cap (.t 29)), oo 31 (.bin .gtr (.t 28) (.t 30))])
 (.cond (.t 31)
 (.seq (.reg false [om 32 0, om 33 1, oo 34 (.slc 5 (.t 32) none (some (.t 33))), om 35 8, om 36 7, oo 37 (.bin .add (.t 35) (.t 36)), om 38 1, oo 39 (.bin .sub (.t 37) (.t 38)), oo 40 (.apz 130 5 40 [.int .i64 0, .int .i64 0, .int .i64 0, .bool false, .int .i64 0] (.t 34) (.t 39)), om 9 40])
 (.seq (.reg false [om 41 9, om 42 1, oo 43 (.slc 5 (.t 41) (some (.t 42)) none), om 44 2, oo 45 (.cpy 5 (.t 43) (.t 44))])
 (.seq (.reg true [om 46 9, om 47 1, om 48 7, oo 49 (.bin .add (.t 47) (.t 48)), oo 50 (.slc 5 (.t 46) (some (.t 49)) none), om 51 0, om 52 1, oo 53 (.slc 5 (.t 51) (some (.t 52)) none), oo 54 (.cpy 5 (.t 50) (.t 53))])
 (.seq (.reg false [om 55 9, om 6 55])
 .ret))))
 .skip))
 (.seq (.reg false [om 56 0, om 57 8, om 58 7, oo 59 (.bin .add (.t 57) (.t 58)), oo 60 (.slc 5 (.t 56) none (some (.t 59))), om 0 60])
 (.seq (.seq (.reg false [om 61 2, om 62 0, om 63 1, om 64 7, oo 65 (.bin .add (.t 63) (.t 64)), oo 66 (.slc 5 (.t 62) (some (.t 65)) none), oo 67 (.call (kf 199) [(.t 61), (.t 66)]), oo 68 (.un .not (.t 67))])
 (.cond (.t 68)
 (.seq (.reg true [om 69 0, om 70 1, om 71 7, oo 72 (.bin .add (.t 70) (.t 71)), oo 73 (.slc 5 (.t 69) (some (.t 72)) none), om 74 0, om 75 1, oo 76 (.slc 5 (.t 74) (some (.t 75)) none), oo 77 (.cpy 5 (.t 73) (.t 76))])
 (.seq (.reg false [om 78 0, om 79 1, oo 80 (.slc 5 (.t 78) (some (.t 79)) none), om 81 2, oo 82 (.cpy 5 (.t 80) (.t 81))])
 (.seq (.reg false [om 83 0, om 6 83])
 .ret)))
 .skip))
 (.seq (.reg false [om 84 0, om 85 8, oo 86 (.slc 5 (.t 84) (some (.t 85)) none), om 87 2, oo 88 (.cpy 5 (.t 86) (.t 87))])
 (.seq (.reg false [om 89 0, om 90 1, oo 91 (.slc 5 (.t 89) (some (.t 90)) none), om 92 7, oo 93 (.call (kf 200) [(.t 91), (.t 92)])])
 (.seq (.reg false [om 94 0, om 6 94])
 .ret))))))))))))
abbrev n_slices_Insert_api_Done_api_Done : Nat := 170
theorem F_slices_Insert_api_Done_api_Done : Fun Tryz.prog n_slices_Insert_api_Done_api_Done 95 c_slices_Insert_api_Done_api_Done [.t 6] := ⟨⟨Tryz.f170, _, Tryz.func170, by kernel_rfl, rfl, rfl, by kernel_rfl, by kernel_rfl⟩⟩
def c_slices_Delete_api_Done_api_Done : C :=
 (.seq (.reg false [oo 6 (.mv (.k (.one (.c (.v (.slice none 0 0))))))])
 (.seq (.reg false [om 8 0, om 9 1, om 10 2, om 11 0, oo 12 (.len (.t 11)), oo 13 (.s3 (.t 8) (some (.t 9)) (some (.t 10)) (some (.t 12)))])
 (.seq (.seq (.reg false [om 14 1, om 15 2, oo 16 (.bin .eql (.t 14) (.t 15))])
 (.cond (.t 16)
 (.seq (.reg false [om 17 0, om 6 17])
 .ret)
 .skip))
 (.seq (.reg false [om 18 0, oo 19 (.len (.t 18)), om 7 19])
 (.seq (.reg true [om 20 0, om 21 1, oo 22 (.slc 5 (.t 20) none (some (.t 21))), om 23 0, om 24 2, oo 25 (.slc 5 (.t 23) (some (.t 24)) none), oo 26 (.app 130 5 40 [.int .i64 0, .int .i64 0, .int .i64 0, .bool false, .int .i64 0] (.t 22) (.t 25)), om 0 26])
 (.seq (.reg false [om 27 0, om 28 0, oo 29 (.len (.t 28)), om 30 7, oo 31 (.slc 5 (.t 27) (some (.t 29)) (some (.t 30))), on_ (.clr 5 [.int .i64 0, .int .i64 0, .int .i64 0, .bool false, .int .i64 0] (.t 31))])
 (.seq (.reg false [om 32 0, om 6 32])
 .ret)))))))
abbrev n_slices_Delete_api_Done_api_Done : Nat := 171
theorem F_slices_Delete_api_Done_api_Done : Fun Tryz.prog n_slices_Delete_api_Done_api_Done 33 c_slices_Delete_api_Done_api_Done [.t 6] := ⟨⟨Tryz.f171, _, Tryz.func171, by kernel_rfl, rfl, rfl, by kernel_rfl, by kernel_rfl⟩⟩
def c_windroseref12_Put : C :=
 (.seq (.reg false [oo 3 (.box 63 2 (.t 1)), oo 4 (.mv (.k (.one (.c (.v (.slice none 0 0)))))), oo 5 (.mv (ki 0))])
 (.seq (.seq (.reg false [oo 8 (.ld true 2 (.t 3)), oo 9 (.bsl 63 2 1 [.int .i64 0, .int .i64 0] [(0, (.t 8))]), oo 10 (.call (kf 72) [(.t 9)]), oo 11 (.un .not (.t 10))])
 (.cond (.t 11)
 (.seq (.reg false [om 12 0, om 4 12, oo 5 (.mv (ki 1))])
 .ret)
 .skip))
 (.seq (.reg false [om 14 0, oo 15 (.fa 0 (.t 3)), oo 16 (.ld false 1 (.t 15)), oo 17 (.call (kf 155) [(.t 14), (.t 16)]), om 13 17, oo 18 (.ex (.t 13) 0), oo 19 (.ex (.t 13) 1), oo 6 (.alloc 63 2 [.int .i64 0, .int .i64 0]), on_ (.st 2 (.t 6) (.t 18)), om 7 19])
 (.seq (.seq (.reg false [om 20 7, om 21 20, og 22 21 true (.fa 1 (.t 6)), og 23 21 true (.ld false 1 (.t 22)), og 24 21 true (.fa 1 (.t 3)), og 25 21 true (.ld false 1 (.t 24)), og 26 21 true (.bin .eql (.t 23) (.t 25)), oo 27 (.pick (.t 21) (.t 26) (kb false))])
 (.cond (.t 27)
 (.seq (.reg false [om 28 0, om 4 28, oo 5 (.mv (ki 7))])
 .ret)
 .skip))
 (.seq (.seq (.reg false [om 29 7])
 (.cond (.t 29)
 (.seq (.reg false [om 30 0, om 4 30, oo 5 (.mv (ki 8))])
 .ret)
 .skip))
 (.seq (.seq (.reg false [om 31 0, oo 32 (.len (.t 31)), oo 33 (.bin .eql (.t 32) (ki 64))])
 (.cond (.t 33)
 (.seq (.reg false [om 34 0, om 4 34, oo 5 (.mv (ki 6))])
 .ret)
 .skip))
 (.seq (.reg false [om 35 0, oo 36 (.ld true 2 (.t 3)), oo 37 (.call (kf 189) [(.t 35), (.t 36)]), om 4 37, oo 5 (.mv (ki 0))])
 .ret)))))))
abbrev n_windroseref12_Put : Nat := 152
theorem F_windroseref12_Put : Fun Tryz.prog n_windroseref12_Put 38 c_windroseref12_Put [.t 4, .t 5] := ⟨⟨Tryz.f152, _, Tryz.func152, by kernel_rfl, rfl, rfl, by kernel_rfl, by kernel_rfl⟩⟩
def c_windroseref14_set : C :=
 (.seq (.reg false [oo 6 (.mv (.k (.one (.c (.v (.slice none 0 0))))))])
 (.seq (.reg false [oo 10 (.bsl 136 2 0 [.string ⟨#[]⟩, .slice none 0 0] []), om 7 10])
 (.seq (.reg false [om 11 2, oo 12 (.len (.t 11)), oo 13 (.bin .eql (.t 12) (ki 0)), om 8 13])
 (.seq (.seq (.reg false [oo 9 (.mv (ki 0))])
 (.block 0 (.loop (.seq (.seq (.reg false [om 14 9, om 15 0, oo 16 (.len (.t 15)), oo 17 (.bin .lss (.t 14) (.t 16))])
 (.cond (.t 17)
 .skip
 (.exit 0)))
 (.seq (.block 1 (.seq (.seq (.reg false [om 20 8, oo 21 (.un .not (.t 20)), om 22 21, og 23 22 true (.mv (.t 0)), og 24 22 true (.mv (.t 9)), og 25 22 true (.ia 2 (.t 23) (.t 24)), og 26 22 true (.fa 0 (.t 25)), og 27 22 true (.ld false 1 (.t 26)), og 28 22 true (.mv (.t 1)), og 29 22 true (.bin .geq (.t 27) (.t 28)), oo 30 (.pick (.t 22) (.t 29) (kb false))])
 (.cond (.t 30)
 (.seq (.reg false [om 31 7, om 32 1, om 33 2, oo 34 (.bld [.string ⟨#[]⟩, .slice none 0 0] [(0, 1, (.t 32)), (1, 1, (.t 33))]), oo 35 (.bsl 136 2 1 [.string ⟨#[]⟩, .slice none 0 0] [(0, (.t 34))]), oo 36 (.app 136 2 40 [.string ⟨#[]⟩, .slice none 0 0] (.t 31) (.t 35)), om 7 36])
 (.reg false [oo 8 (.mv (kb true))]))
 .skip))
 (.seq (.reg false [om 37 0, om 38 9, oo 39 (.ia 2 (.t 37) (.t 38)), oo 40 (.fa 0 (.t 39)), oo 41 (.ld false 1 (.t 40)), om 42 1, oo 43 (.bin .neq (.t 41) (.t 42))])
 (.cond (.t 43)
 (.reg false [om 44 7, om 45 0, om 46 9, oo 47 (.ia 2 (.t 45) (.t 46)), oo 48 (.ld true 2 (.t 47)), oo 49 (.bsl 136 2 1 [.string ⟨#[]⟩, .slice none 0 0] [(0, (.t 48))]), oo 50 (.app 136 2 40 [.string ⟨#[]⟩, .slice none 0 0] (.t 44) (.t 49)), om 7 50])
 .skip))))
 (.reg false [om 18 9, oo 19 (.bin .add (.t 18) (ki 1)), om 9 19]))))))
 (.seq (.seq (.reg false [om 51 8, oo 52 (.un .not (.t 51))])
 (.cond (.t 52)
 (.reg false [om 53 7, om 54 1, om 55 2, oo 56 (.bld [.string ⟨#[]⟩, .slice none 0 0] [(0, 1, (.t 54)), (1, 1, (.t 55))]), oo 57 (.bsl 136 2 1 [.string ⟨#[]⟩, .slice none 0 0] [(0, (.t 56))]), oo 58 (.app 136 2 40 [.string ⟨#[]⟩, .slice none 0 0] (.t 53) (.t 57)), om 7 58])
 .skip))
 (.seq (.reg false [om 59 7, om 6 59])
 .ret))))))
abbrev n_windroseref14_set : Nat := 153
theorem F_windroseref14_set : Fun Tryz.prog n_windroseref14_set 60 c_windroseref14_set [.t 6] := ⟨⟨Tryz.f153, _, Tryz.func153, by kernel_rfl, rfl, rfl, by kernel_rfl, by kernel_rfl⟩⟩
def c_windroseref12_Get : C :=
 (.seq (.reg false [oo 4 (.alloc 63 2 [.int .i64 0, .int .i64 0]), oo 5 (.mv (kb false))])
 (.seq (.seq (.reg false [oo 6 (.mv (ki 0))])
 (.block 0 (.loop (.seq (.seq (.reg false [om 7 6, om 8 0, oo 9 (.len (.t 8)), oo 10 (.bin .lss (.t 7) (.t 9))])
 (.cond (.t 10)
 .skip
 (.exit 0)))
 (.seq (.block 1 (.seq (.reg false [om 13 0, om 14 6, oo 15 (.ia 2 (.t 13) (.t 14)), oo 16 (.fa 0 (.t 15)), oo 17 (.ld false 1 (.t 16)), om 18 1, oo 19 (.bin .eql (.t 17) (.t 18))])
 (.cond (.t 19)
 (.seq (.reg false [om 20 0, om 21 6, oo 22 (.ia 2 (.t 20) (.t 21)), oo 23 (.ld true 2 (.t 22)), on_ (.st 2 (.t 4) (.t 23)), oo 5 (.mv (kb true))])
 .ret)
 .skip)))
 (.reg false [om 11 6, oo 12 (.bin .add (.t 11) (ki 1)), om 6 12]))))))
 (.seq (.reg false [oo 24 (.bld [.int .i64 0, .int .i64 0] []), on_ (.st 2 (.t 4) (.t 24)), oo 5 (.mv (kb false))])
 .ret)))
abbrev n_windroseref12_Get : Nat := 155
theorem F_windroseref12_Get : Fun Tryz.prog n_windroseref12_Get 25 c_windroseref12_Get [.l true 2 4, .t 5] := ⟨⟨Tryz.f155, _, Tryz.func155, by kernel_rfl, rfl, rfl, by kernel_rfl, by kernel_rfl⟩⟩
def c_windroseref13_Of : C :=
 (.seq (.reg false [oo 4 (.mv (ki 0)), oo 5 (.mv (kb false))])
 (.seq (.seq (.reg false [om 13 1, oo 14 (.call (kf 72) [(.t 13)]), oo 15 (.un .not (.t 14)), om 16 15, og 17 16 false (.mv (.t 0)), og 18 16 false (.bin .lss (.t 17) (ki 1)), oo 19 (.pick (.t 16) (kb true) (.t 18)), om 20 19, og 21 20 false (.mv (.t 0)), og 22 20 false (.bin .gtr (.t 21) (ki 5)), oo 23 (.pick (.t 20) (kb true) (.t 22))])
 (.cond (.t 23)
 (.seq (.reg false [oo 4 (.mv (ki 0)), oo 5 (.mv (kb false))])
 .ret)
 .skip))
 (.seq (.reg false [om 24 1, oo 25 (.len (.t 24)), om 6 25])
 (.seq (.reg false [oo 7 (.mv (ki 0)), oo 8 (.mv (ki 0)), oo 9 (.mv (ki 0)), oo 10 (.mv (ki 0))])
 (.seq (.seq (.reg false [oo 11 (.mv (ki 0))])
 (.block 0 (.loop (.seq (.seq (.reg false [om 26 11, om 27 6, oo 28 (.bin .lss (.t 26) (.t 27))])
 (.cond (.t 28)
 .skip
 (.exit 0)))
 (.seq (.block 1 (.seq (.reg false [om 31 1, om 32 11, oo 33 (.ia 2 (.t 31) (.t 32)), oo 34 (.fa 1 (.t 33)), oo 35 (.ld false 1 (.t 34)), om 12 35])
 (.seq (.reg false [om 36 7, om 37 12, oo 38 (.bin .add (.t 36) (.t 37)), om 7 38])
 (.seq (.seq (.reg false [om 39 11, oo 40 (.bin .eql (.t 39) (ki 0)), om 41 40, og 42 41 false (.mv (.t 12)), og 43 41 false (.mv (.t 8)), og 44 41 false (.bin .lss (.t 42) (.t 43)), oo 45 (.pick (.t 41) (kb true) (.t 44))])
 (.cond (.t 45)
 (.reg false [om 46 12, om 8 46])
 .skip))
 (.seq (.seq (.reg false [om 47 11, oo 48 (.bin .eql (.t 47) (ki 0)), om 49 48, og 50 49 false (.mv (.t 12)), og 51 49 false (.mv (.t 9)), og 52 49 false (.bin .gtr (.t 50) (.t 51)), oo 53 (.pick (.t 49) (kb true) (.t 52))])
 (.cond (.t 53)
 (.reg false [om 54 12, om 9 54])
 .skip))
 (.seq (.reg false [om 55 11, oo 56 (.bin .gtr (.t 55) (ki 0)), om 57 56, og 58 57 true (.mv (.t 12)), og 59 57 true (.mv (.t 1)), og 60 57 true (.mv (.t 11)), og 61 57 true (.bin .sub (.t 60) (ki 1)), og 62 57 true (.ia 2 (.t 59) (.t 61)), og 63 57 true (.fa 1 (.t 62)), og 64 57 true (.ld false 1 (.t 63)), og 65 57 true (.bin .geq (.t 58) (.t 64)), oo 66 (.pick (.t 57) (.t 65) (kb false))])
 (.cond (.t 66)
 (.reg false [om 67 10, om 68 12, oo 69 (.bin .add (.t 67) (.t 68)), om 70 1, om 71 11, oo 72 (.bin .sub (.t 71) (ki 1)), oo 73 (.ia 2 (.t 70) (.t 72)), oo 74 (.fa 1 (.t 73)), oo 75 (.ld false 1 (.t 74)), oo 76 (.bin .sub (.t 69) (.t 75)), om 10 76])
 (.seq (.reg false [om 77 11, oo 78 (.bin .gtr (.t 77) (ki 0)), om 79 78, og 80 79 true (.mv (.t 12)), og 81 79 true (.bin .gtr (.t 80) (ki 0)), oo 82 (.pick (.t 79) (.t 81) (kb false))])
 (.cond (.t 82)
 (.reg false [om 83 10, om 84 12, oo 85 (.bin .add (.t 83) (.t 84)), om 10 85])
 .skip)))))))))
 (.reg false [om 29 11, oo 30 (.bin .add (.t 29) (ki 1)), om 11 30]))))))
 (.seq (.seq (.reg false [om 86 0])
 (.block 2 (.seq (.reg false [oo 88 (.bin .eql (.t 86) (ki 1)), om 87 88])
 (.cond (.t 87)
 (.seq (.reg false [om 89 7, om 4 89, oo 5 (.mv (kb true))])
 .ret)
 (.seq (.reg false [oo 91 (.bin .eql (.t 86) (ki 4)), om 90 91])
 (.cond (.t 90)
 (.seq (.reg false [om 92 6, om 4 92, oo 5 (.mv (kb true))])
 .ret)
 (.seq (.reg false [oo 94 (.bin .eql (.t 86) (ki 2)), om 93 94])
 (.cond (.t 93)
 (.seq (.reg false [om 95 8, om 96 6, oo 97 (.bin .gtr (.t 96) (ki 0)), om 4 95, om 5 97])
 .ret)
 (.seq (.reg false [oo 99 (.bin .eql (.t 86) (ki 3)), om 98 99])
 (.cond (.t 98)
 (.seq (.reg false [om 100 9, om 101 6, oo 102 (.bin .gtr (.t 101) (ki 0)), om 4 100, om 5 102])
 .ret)
 .skip))))))))))
 (.seq (.seq (.reg false [om 103 6, oo 104 (.bin .lss (.t 103) (ki 2))])
 (.cond (.t 104)
 (.seq (.reg false [oo 4 (.mv (ki 0)), oo 5 (.mv (kb false))])
 .ret)
 .skip))
 (.seq (.reg true [om 105 10, oo 106 (.bin .mul (.t 105) (ki 60)), om 107 1, om 108 6, oo 109 (.bin .sub (.t 108) (ki 1)), oo 110 (.ia 2 (.t 107) (.t 109)), oo 111 (.fa 0 (.t 110)), oo 112 (.ld false 1 (.t 111)), om 113 1, oo 114 (.ia 2 (.t 113) (ki 0)), oo 115 (.fa 0 (.t 114)), oo 116 (.ld false 1 (.t 115)), oo 117 (.bin .sub (.t 112) (.t 116)), oo 118 (.bin .quo (.t 106) (.t 117)), om 4 118, oo 5 (.mv (kb true))])
 .ret))))))))
abbrev n_windroseref13_Of : Nat := 156
theorem F_windroseref13_Of : Fun Tryz.prog n_windroseref13_Of 119 c_windroseref13_Of [.t 4, .t 5] := ⟨⟨Tryz.f156, _, Tryz.func156, by kernel_rfl, rfl, rfl, by kernel_rfl, by kernel_rfl⟩⟩
def c_windroseref12_Range : C :=
 (.seq (.reg false [oo 6 (.mv (.k (.one (.c (.v (.slice none 0 0))))))])
 (.seq (.reg false [oo 9 (.bsl 63 2 0 [.int .i64 0, .int .i64 0] []), om 7 9])
 (.seq (.seq (.reg false [oo 8 (.mv (ki 0))])
 (.block 0 (.loop (.seq (.seq (.reg false [om 10 8, om 11 0, oo 12 (.len (.t 11)), oo 13 (.bin .lss (.t 10) (.t 12))])
 (.cond (.t 13)
 .skip
 (.exit 0)))
 (.seq (.block 1 (.seq (.reg false [om 16 0, om 17 8, oo 18 (.ia 2 (.t 16) (.t 17)), oo 19 (.fa 0 (.t 18)), oo 20 (.ld false 1 (.t 19)), om 21 1, oo 22 (.bin .geq (.t 20) (.t 21)), om 23 22, og 24 23 true (.mv (.t 0)), og 25 23 true (.mv (.t 8)), og 26 23 true (.ia 2 (.t 24) (.t 25)), og 27 23 true (.fa 0 (.t 26)), og 28 23 true (.ld false 1 (.t 27)), og 29 23 true (.mv (.t 2)), og 30 23 true (.bin .lss (.t 28) (.t 29)), oo 31 (.pick (.t 23) (.t 30) (kb false))])
 (.cond (.t 31)
 (.reg false [om 32 7, om 33 0, om 34 8, oo 35 (.ia 2 (.t 33) (.t 34)), oo 36 (.ld true 2 (.t 35)), oo 37 (.bsl 63 2 1 [.int .i64 0, .int .i64 0] [(0, (.t 36))]), oo 38 (.app 63 2 16 [.int .i64 0, .int .i64 0] (.t 32) (.t 37)), om 7 38])
 .skip)))
 (.reg false [om 14 8, oo 15 (.bin .add (.t 14) (ki 1)), om 8 15]))))))
 (.seq (.reg false [om 39 7, om 6 39])
 .ret))))
abbrev n_windroseref12_Range : Nat := 157
theorem F_windroseref12_Range : Fun Tryz.prog n_windroseref12_Range 40 c_windroseref12_Range [.t 6] := ⟨⟨Tryz.f157, _, Tryz.func157, by kernel_rfl, rfl, rfl, by kernel_rfl, by kernel_rfl⟩⟩
def c_shelf_line : C :=
 (.seq (.reg false [oo 2 (.box 77 3 (.t 0)), oo 4 (.mv (ki 0)), oo 5 (.mv (kb false))])
 (.seq (.reg false [oo 6 (.fa 0 (.t 2)), oo 7 (.ld false 1 (.t 6)), om 8 1, oo 9 (.call (kf 217) [(.t 7), (.t 8), (kf 218)]), oo 10 (.ex (.t 9) 0), oo 11 (.ex (.t 9) 1), om 4 10, om 5 11])
 .ret))
abbrev n_shelf_line : Nat := 190
theorem F_shelf_line : Fun Tryz.prog n_shelf_line 12 c_shelf_line [.t 4, .t 5] := ⟨⟨Tryz.f190, _, Tryz.func190, by kernel_rfl, rfl, rfl, by kernel_rfl, by kernel_rfl⟩⟩
def c_slices_Insert_api_Line_api_Line : C :=
 (.seq (.reg false [oo 6 (.mv (.k (.one (.c (.v (.slice none 0 0))))))])
 (.seq (.reg false [om 10 0, om 11 1, oo 12 (.slc 2 (.t 10) (some (.t 11)) none)])
 (.seq (.reg false [om 13 2, oo 14 (.len (.t 13)), om 7 14])
 (.seq (.seq (.reg false [om 15 7, oo 16 (.bin .eql (.t 15) (ki 0))])
 (.cond (.t 16)
 (.seq (.reg false [om 17 0, om 6 17])
 .ret)
 .skip))
 (.seq (.reg false [om 18 0, oo 19 (.len (.t 18)), om 8 19])
 (.seq (.seq (.reg false [om 20 1, om 21 8, oo 22 (.bin .eql (.t 20) (.t 21))])
 (.cond (.t 22)
 (.seq (.reg false [om 23 0, om 24 2, oo 25 (.app 136 2 40 [.string ⟨#[]⟩, .slice none 0 0] (.t 23) (.t 24)), om 6 25])
 .ret)
 .skip))
 (.seq (.seq (.reg false [om 26 8, om 27 7, oo 28 (.bin .add (.t 26) (.t 27)), om 29 0, oo 30 (.cap (.t 29)), oo 31 (.bin .gtr (.t 28) (.t 30))])
 (.cond (.t 31)
 (.seq (.reg false [om 32 0, om 33 1, oo 34 (.slc 2 (.t 32) none (some (.t 33))), om 35 8, om 36 7, oo 37 (.bin .add (.t 35) (.t 36)), om 38 1, oo 39 (.bin .sub (.t 37) (.t 38)), oo 40 (.apz 136 2 40 [.string ⟨#[]⟩, .slice none 0 0] (.t 34) (.t 39)), om 9 40])
 (.seq (.reg false [om 41 9, om 42 1, oo 43 (.slc 2 (.t 41) (some (.t 42)) none), om 44 2, oo 45 (.cpy 2 (.t 43) (.t 44))])
 (.seq (.reg true [om 46 9, om 47 1, om 48 7, oo 49 (.bin .add (.t 47) (.t 48)), oo 50 (.slc 2 (.t 46) (some (.t 49)) none), om 51 0, om 52 1, oo 53 (.slc 2 (.t 51) (some (.t 52)) none), oo 54 (.cpy 2 (.t 50) (.t 53))])
 (.seq (.reg false [om 55 9, om 6 55])
 .ret))))
 .skip))
 (.seq (.reg false [om 56 0, om 57 8, om 58 7, oo 59 (.bin .add (.t 57) (.t 58)), oo 60 (.slc 2 (.t 56) none (some (.t 59))), om 0 60])
 (.seq (.seq (.reg false [om 61 2, om 62 0, om 63 1, om 64 7, oo 65 (.bin .add (.t 63) (.t 64)), oo 66 (.slc 2 (.t 62) (some (.t 65)) none), oo 67 (.call (kf 219) [(.t 61), (.t 66)]), oo 68 (.un .not (.t 67))])
 (.cond (.t 68)
 (.seq (.reg true [om 69 0, om 70 1, om 71 7, oo 72 (.bin .add (.t 70) (.t 71)), oo 73 (.slc 2 (.t 69) (some (.t 72)) none), om 74 0, om 75 1, oo 76 (.slc 2 (.t 74) (some (.t 75)) none), oo 77 (.cpy 2 (.t 73) (.t 76))])
 (.seq (.reg false [om 78 0, om 79 1, oo 80 (.slc 2 (.t 78) (some (.t 79)) none), om 81 2, oo 82 (.cpy 2 (.t 80) (.t 81))])
 (.seq (.reg false [om 83 0, om 6 83])
 .ret)))
 .skip))
 (.seq (.reg false [om 84 0, om 85 8, oo 86 (.slc 2 (.t 84) (some (.t 85)) none), om 87 2, oo 88 (.cpy 2 (.t 86) (.t 87))])
 (.seq (.reg false [om 89 0, om 90 1, oo 91 (.slc 2 (.t 89) (some (.t 90)) none), om 92 7, oo 93 (.call (kf 220) [(.t 91), (.t 92)])])
 (.seq (.reg false [om 94 0, om 6 94])
 .ret))))))))))))
abbrev n_slices_Insert_api_Line_api_Line : Nat := 191
theorem F_slices_Insert_api_Line_api_Line : Fun Tryz.prog n_slices_Insert_api_Line_api_Line 95 c_slices_Insert_api_Line_api_Line [.t 6] := ⟨⟨Tryz.f191, _, Tryz.func191, by kernel_rfl, rfl, rfl, by kernel_rfl, by kernel_rfl⟩⟩
def c_samples_Put : C :=
 (.seq (.reg false [oo 3 (.box 63 2 (.t 1)), oo 4 (.mv (.k (.one (.c (.v (.slice none 0 0)))))), oo 5 (.mv (ki 0))])
 (.seq (.seq (.reg false [om 9 0, oo 10 (.call (kf 159) [(.t 9)]), om 6 10])
 (.seq (.reg false [om 11 6, oo 12 (.bin .neq (.t 11) (ki 0))])
 (.cond (.t 12)
 (.seq (.reg false [om 13 6, oo 4 (.mv (.k (.one (.c (.v (.slice none 0 0)))))), om 5 13])
 .ret)
 .skip)))
 (.seq (.reg false [om 14 0, oo 15 (.call (kf 163) [(.t 14)]), om 0 15])
 (.seq (.reg false [om 17 0, oo 18 (.fa 0 (.t 3)), oo 19 (.ld false 1 (.t 18)), oo 20 (.call (kf 221) [(.t 17), (.t 19)]), om 16 20, oo 21 (.ex (.t 16) 0), oo 22 (.ex (.t 16) 1), om 7 21, om 8 22])
 (.seq (.block 0 (.seq (.reg false [oo 24 (.ld true 2 (.t 3)), oo 25 (.bsl 63 2 1 [.int .i64 0, .int .i64 0] [(0, (.t 24))]), oo 26 (.call (kf 159) [(.t 25)]), oo 27 (.bin .neq (.t 26) (ki 0)), om 23 27])
 (.cond (.t 23)
 (.seq (.reg false [om 28 0, om 4 28, oo 5 (.mv (ki 1))])
 .ret)
 (.seq (.reg true [om 30 8, om 31 30, og 32 31 true (.mv (.t 0)), og 33 31 true (.mv (.t 7)), og 34 31 true (.ia 2 (.t 32) (.t 33)), og 35 31 true (.ld true 2 (.t 34)), og 36 31 true (.ld true 2 (.t 3)), og 37 31 true (.eqa [1, 1] false (.t 35) (.t 36)), oo 38 (.pick (.t 31) (.t 37) (kb false)), om 29 38])
 (.cond (.t 29)
 (.seq (.reg false [om 39 0, om 4 39, oo 5 (.mv (ki 7))])
 .ret)
 (.seq (.reg false [om 41 8, om 40 41])
 (.cond (.t 40)
 (.seq (.reg false [om 42 0, om 4 42, oo 5 (.mv (ki 8))])
 .ret)
 (.seq (.reg false [om 44 0, oo 45 (.len (.t 44)), oo 46 (.bin .eql (.t 45) (ki 64)), om 43 46])
 (.cond (.t 43)
 (.seq (.reg false [om 47 0, om 4 47, oo 5 (.mv (ki 6))])
 .ret)
 .skip)))))))))
 (.seq (.reg false [om 48 0, om 49 7, oo 50 (.ld true 2 (.t 3)), oo 51 (.bsl 63 2 1 [.int .i64 0, .int .i64 0] [(0, (.t 50))]), oo 52 (.call (kf 222) [(.t 48), (.t 49), (.t 51)]), om 4 52, oo 5 (.mv (ki 0))])
 .ret))))))
abbrev n_samples_Put : Nat := 192
theorem F_samples_Put : Fun Tryz.prog n_samples_Put 53 c_samples_Put [.t 4, .t 5] := ⟨⟨Tryz.f192, _, Tryz.func192, by kernel_rfl, rfl, rfl, by kernel_rfl, by kernel_rfl⟩⟩
def c_samples_Trim : C :=
 (.seq (.reg false [oo 4 (.mv (.k (.one (.c (.v (.slice none 0 0))))))])
 (.seq (.seq (.reg false [om 7 0, oo 8 (.call (kf 159) [(.t 7)]), oo 9 (.bin .neq (.t 8) (ki 0))])
 (.cond (.t 9)
 (.seq (.reg false [oo 4 (.mv (.k (.one (.c (.v (.slice none 0 0))))))])
 .ret)
 .skip))
 (.seq (.reg false [om 11 0, om 12 1, oo 13 (.call (kf 221) [(.t 11), (.t 12)]), om 10 13, oo 14 (.ex (.t 10) 0), oo 15 (.ex (.t 10) 1), om 5 14, om 6 15])
 (.seq (.reg false [om 16 0, om 17 5, oo 18 (.slc 2 (.t 16) (some (.t 17)) none), oo 19 (.call (kf 163) [(.t 18)]), om 4 19])
 .ret))))
abbrev n_samples_Trim : Nat := 193
theorem F_samples_Trim : Fun Tryz.prog n_samples_Trim 20 c_samples_Trim [.t 4] := ⟨⟨Tryz.f193, _, Tryz.func193, by kernel_rfl, rfl, rfl, by kernel_rfl, by kernel_rfl⟩⟩
def c_slices_DeleteFunc_api_Line_api_Line : C :=
 (.seq (.reg false [oo 4 (.mv (.k (.one (.c (.v (.slice none 0 0))))))])
 (.seq (.reg false [om 8 0, om 9 1, oo 10 (.call (kf 223) [(.t 8), (.t 9)]), om 5 10])
 (.seq (.seq (.reg false [om 11 5, oo 12 (.bin .eql (.t 11) (ki (-1)))])
 (.cond (.t 12)
 (.seq (.reg false [om 13 0, om 4 13])
 .ret)
 .skip))
 (.seq (.seq (.reg false [om 14 5, oo 15 (.bin .add (.t 14) (ki 1)), om 6 15])
 (.block 0 (.loop (.seq (.seq (.reg false [om 16 6, om 17 0, oo 18 (.len (.t 17)), oo 19 (.bin .lss (.t 16) (.t 18))])
 (.cond (.t 19)
 .skip
 (.exit 0)))
 (.seq (.block 1 (.seq (.reg false [om 22 0, om 23 6, oo 24 (.ia 2 (.t 22) (.t 23)), oo 25 (.ld true 2 (.t 24)), oo 7 (.alloc 136 2 [.string ⟨#[]⟩, .slice none 0 0]), on_ (.st 2 (.t 7) (.t 25))])
 (.seq (.reg false [om 26 1, oo 27 (.ld true 2 (.t 7)), oo 28 (.call (.t 26) [(.t 27)]), oo 29 (.un .not (.t 28))])
 (.cond (.t 29)
 (.seq (.reg false [om 30 0, om 31 5, oo 32 (.ld true 2 (.t 7)), oo 33 (.ia 2 (.t 30) (.t 31)), on_ (.st 2 (.t 33) (.t 32))])
 (.reg false [om 34 5, oo 35 (.bin .add (.t 34) (ki 1)), om 5 35]))
 .skip))))
 (.reg false [om 20 6, oo 21 (.bin .add (.t 20) (ki 1)), om 6 21]))))))
 (.seq (.reg false [om 36 0, om 37 5, oo 38 (.slc 2 (.t 36) (some (.t 37)) none), on_ (.clr 2 [.string ⟨#[]⟩, .slice none 0 0] (.t 38))])
 (.seq (.reg false [om 39 0, om 40 5, oo 41 (.slc 2 (.t 39) none (some (.t 40))), om 4 41])
 .ret))))))
abbrev n_slices_DeleteFunc_api_Line_api_Line : Nat := 194
theorem F_slices_DeleteFunc_api_Line_api_Line : Fun Tryz.prog n_slices_DeleteFunc_api_Line_api_Line 42 c_slices_DeleteFunc_api_Line_api_Line [.t 4] := ⟨⟨Tryz.f194, _, Tryz.func194, by kernel_rfl, rfl, rfl, by kernel_rfl, by kernel_rfl⟩⟩
def c_shelf_trim_1 : C :=
 (.seq (.reg false [oo 1 (.box 136 2 (.t 0)), oo 2 (.mv (kb false))])
 (.seq (.reg false [oo 3 (.fa 1 (.t 1)), oo 4 (.ld false 1 (.t 3)), oo 5 (.len (.t 4)), oo 6 (.bin .eql (.t 5) (ki 0)), om 2 6])
 .ret))
abbrev n_shelf_trim_1 : Nat := 195
theorem F_shelf_trim_1 : Fun Tryz.prog n_shelf_trim_1 7 c_shelf_trim_1 [.t 2] := ⟨⟨Tryz.f195, _, Tryz.func195, by kernel_rfl, rfl, rfl, by kernel_rfl, by kernel_rfl⟩⟩
def c_samples_Get : C :=
 (.seq (.reg false [oo 4 (.alloc 63 2 [.int .i64 0, .int .i64 0]), oo 5 (.mv (kb false))])
 (.seq (.reg false [om 9 0, om 10 1, oo 11 (.call (kf 221) [(.t 9), (.t 10)]), om 8 11, oo 12 (.ex (.t 8) 0), oo 13 (.ex (.t 8) 1), om 6 12, om 7 13])
 (.seq (.seq (.reg false [om 14 7, oo 15 (.un .not (.t 14)), om 16 15, og 17 16 false (.mv (.t 0)), og 18 16 false (.call (kf 159) [(.t 17)]), og 19 16 false (.bin .neq (.t 18) (ki 0)), oo 20 (.pick (.t 16) (kb true) (.t 19))])
 (.cond (.t 20)
 (.seq (.reg false [oo 21 (.bld [.int .i64 0, .int .i64 0] []), on_ (.st 2 (.t 4) (.t 21)), oo 5 (.mv (kb false))])
 .ret)
 .skip))
 (.seq (.reg false [om 22 0, om 23 6, oo 24 (.ia 2 (.t 22) (.t 23)), oo 25 (.ld true 2 (.t 24)), on_ (.st 2 (.t 4) (.t 25)), oo 5 (.mv (kb true))])
 .ret))))
abbrev n_samples_Get : Nat := 196
theorem F_samples_Get : Fun Tryz.prog n_samples_Get 26 c_samples_Get [.l true 2 4, .t 5] := ⟨⟨Tryz.f196, _, Tryz.func196, by kernel_rfl, rfl, rfl, by kernel_rfl, by kernel_rfl⟩⟩
def c_total_Of : C :=
 (.seq (.reg false [oo 4 (.mv (ki 0)), oo 5 (.mv (kb false))])
 (.seq (.seq (.reg false [om 9 1, oo 10 (.call (kf 159) [(.t 9)]), oo 11 (.bin .neq (.t 10) (ki 0)), om 12 11, og 13 12 false (.mv (.t 0)), og 14 12 false (.bin .lss (.t 13) (ki 1)), oo 15 (.pick (.t 12) (kb true) (.t 14)), om 16 15, og 17 16 false (.mv (.t 0)), og 18 16 false (.bin .geq (.t 17) (ki 6)), oo 19 (.pick (.t 16) (kb true) (.t 18))])
 (.cond (.t 19)
 (.seq (.reg false [oo 4 (.mv (ki 0)), oo 5 (.mv (kb false))])
 .ret)
 .skip))
 (.seq (.seq (.reg false [om 20 0])
 (.block 0 (.seq (.reg false [oo 22 (.bin .eql (.t 20) (ki 4)), om 21 22])
 (.cond (.t 21)
 (.seq (.reg false [om 23 1, oo 24 (.len (.t 23)), om 4 24, oo 5 (.mv (kb true))])
 .ret)
 (.seq (.reg false [oo 26 (.bin .eql (.t 20) (ki 5)), om 25 26])
 (.cond (.t 25)
 (.seq (.reg false [om 27 1, oo 28 (.call (kf 224) [(.t 27)]), oo 29 (.ex (.t 28) 0), oo 30 (.ex (.t 28) 1), om 4 29, om 5 30])
 .ret)
 .skip))))))
 (.seq (.reg false [oo 6 (.mv (ki 0))])
 (.seq (.seq (.reg false [om 31 1, oo 32 (.len (.t 31)), oo 33 (.mv (ki 0))])
 (.block 1 (.loop (.seq (.reg false [oo 34 (.bin .lss (.t 33) (.t 32))])
 (.seq (.cond (.t 34)
 .skip
 (.exit 1))
 (.seq (.block 2 (.seq (.reg false [om 35 33, oo 36 (.ia 2 (.t 31) (.t 33)), oo 37 (.ld true 2 (.t 36)), oo 8 (.alloc 63 2 [.int .i64 0, .int .i64 0]), om 7 35, on_ (.st 2 (.t 8) (.t 37))])
 (.seq (.reg false [om 38 7, oo 39 (.bin .eql (.t 38) (ki 0))])
 (.cond (.t 39)
 (.reg false [oo 40 (.fa 1 (.t 8)), oo 41 (.ld false 1 (.t 40)), om 6 41])
 (.reg false [om 43 0, om 44 6, oo 45 (.fa 1 (.t 8)), oo 46 (.ld false 1 (.t 45)), oo 47 (.call (kf 225) [(.t 43), (.t 44), (.t 46)]), om 42 47, oo 48 (.ex (.t 42) 0), oo 49 (.ex (.t 42) 1), om 6 48])))))
 (.reg false [oo 50 (.bin .add (.t 33) (ki 1)), om 33 50])))))))
 (.seq (.reg false [om 51 6, om 52 0, oo 53 (.bin .eql (.t 52) (ki 1)), om 54 53, og 55 54 false (.mv (.t 1)), og 56 54 false (.len (.t 55)), og 57 54 false (.bin .gtr (.t 56) (ki 0)), oo 58 (.pick (.t 54) (kb true) (.t 57)), om 4 51, om 5 58])
 .ret))))))
abbrev n_total_Of : Nat := 197
theorem F_total_Of : Fun Tryz.prog n_total_Of 59 c_total_Of [.t 4, .t 5] := ⟨⟨Tryz.f197, _, Tryz.func197, by kernel_rfl, rfl, rfl, by kernel_rfl, by kernel_rfl⟩⟩
def c_samples_Range : C :=
 (.seq (.reg false [oo 6 (.mv (.k (.one (.c (.v (.slice none 0 0))))))])
 (.seq (.seq (.reg false [om 11 0, oo 12 (.call (kf 159) [(.t 11)]), oo 13 (.bin .neq (.t 12) (ki 0))])
 (.cond (.t 13)
 (.seq (.reg false [oo 6 (.mv (.k (.one (.c (.v (.slice none 0 0))))))])
 .ret)
 .skip))
 (.seq (.reg false [om 15 0, om 16 1, oo 17 (.call (kf 221) [(.t 15), (.t 16)]), om 14 17, oo 18 (.ex (.t 14) 0), oo 19 (.ex (.t 14) 1), om 7 18, om 8 19])
 (.seq (.reg false [om 21 0, om 22 2, oo 23 (.call (kf 221) [(.t 21), (.t 22)]), om 20 23, oo 24 (.ex (.t 20) 0), oo 25 (.ex (.t 20) 1), om 9 24, om 10 25])
 (.seq (.reg false [om 26 0, om 27 7, om 28 7, om 29 9, oo 30 (.mx (.t 28) (.t 29)), oo 31 (.slc 2 (.t 26) (some (.t 27)) (some (.t 30))), oo 32 (.call (kf 163) [(.t 31)]), om 6 32])
 .ret)))))
abbrev n_samples_Range : Nat := 198
theorem F_samples_Range : Fun Tryz.prog n_samples_Range 33 c_samples_Range [.t 6] := ⟨⟨Tryz.f198, _, Tryz.func198, by kernel_rfl, rfl, rfl, by kernel_rfl, by kernel_rfl⟩⟩
def c_windroseref12_with : C :=
 (.seq (.reg false [oo 3 (.box 63 2 (.t 1)), oo 4 (.mv (.k (.one (.c (.v (.slice none 0 0))))))])
 (.seq (.reg false [oo 8 (.bsl 63 2 0 [.int .i64 0, .int .i64 0] []), om 5 8])
 (.seq (.reg false [oo 6 (.mv (kb false))])
 (.seq (.seq (.reg false [oo 7 (.mv (ki 0))])
 (.block 0 (.loop (.seq (.seq (.reg false [om 9 7, om 10 0, oo 11 (.len (.t 10)), oo 12 (.bin .lss (.t 9) (.t 11))])
 (.cond (.t 12)
 .skip
 (.exit 0)))
 (.seq (.block 1 (.seq (.seq (.reg true [om 15 6, oo 16 (.un .not (.t 15)), om 17 16, og 18 17 true (.mv (.t 0)), og 19 17 true (.mv (.t 7)), og 20 17 true (.ia 2 (.t 18) (.t 19)), og 21 17 true (.fa 0 (.t 20)), og 22 17 true (.ld false 1 (.t 21)), og 23 17 true (.fa 0 (.t 3)), og 24 17 true (.ld false 1 (.t 23)), og 25 17 true (.bin .gtr (.t 22) (.t 24)), oo 26 (.pick (.t 17) (.t 25) (kb false))])
 (.cond (.t 26)
 (.seq (.reg false [om 27 5, oo 28 (.ld true 2 (.t 3)), oo 29 (.bsl 63 2 1 [.int .i64 0, .int .i64 0] [(0, (.t 28))]), oo 30 (.app 63 2 16 [.int .i64 0, .int .i64 0] (.t 27) (.t 29)), om 5 30])
 (.reg false [oo 6 (.mv (kb true))]))
 .skip))
 (.reg false [om 31 5, om 32 0, om 33 7, oo 34 (.ia 2 (.t 32) (.t 33)), oo 35 (.ld true 2 (.t 34)), oo 36 (.bsl 63 2 1 [.int .i64 0, .int .i64 0] [(0, (.t 35))]), oo 37 (.app 63 2 16 [.int .i64 0, .int .i64 0] (.t 31) (.t 36)), om 5 37])))
 (.reg false [om 13 7, oo 14 (.bin .add (.t 13) (ki 1)), om 7 14]))))))
 (.seq (.seq (.reg false [om 38 6, oo 39 (.un .not (.t 38))])
 (.cond (.t 39)
 (.reg false [om 40 5, oo 41 (.ld true 2 (.t 3)), oo 42 (.bsl 63 2 1 [.int .i64 0, .int .i64 0] [(0, (.t 41))]), oo 43 (.app 63 2 16 [.int .i64 0, .int .i64 0] (.t 40) (.t 42)), om 5 43])
 .skip))
 (.seq (.reg false [om 44 5, om 4 44])
 .ret))))))
abbrev n_windroseref12_with : Nat := 189
theorem F_windroseref12_with : Fun Tryz.prog n_windroseref12_with 45 c_windroseref12_with [.t 4] := ⟨⟨Tryz.f189, _, Tryz.func189, by kernel_rfl, rfl, rfl, by kernel_rfl, by kernel_rfl⟩⟩
def c_slices_BinarySearchFunc_api_Line_api_Line_string : C :=
 (.seq (.reg false [oo 6 (.mv (ki 0)), oo 7 (.mv (kb false))])
 (.seq (.reg false [om 12 0, oo 13 (.len (.t 12)), om 8 13])
 (.seq (.reg false [om 14 8, oo 9 (.mv (ki 0)), om 10 14])
 (.seq (.block 0 (.loop (.seq (.seq (.reg false [om 15 9, om 16 10, oo 17 (.bin .lss (.t 15) (.t 16))])
 (.cond (.t 17)
 .skip
 (.exit 0)))
 (.block 1 (.seq (.reg false [om 18 9, om 19 10, oo 20 (.bin .add (.t 18) (.t 19)), oo 21 (.cvi .u64 (.t 20)), oo 22 (.bin .shr (.t 21) (.k (.one (.c (.v (.int .u64 1)))))), oo 23 (.cvi .i64 (.t 22)), om 11 23])
 (.seq (.reg false [om 24 2, om 25 0, om 26 11, oo 27 (.ia 2 (.t 25) (.t 26)), oo 28 (.ld true 2 (.t 27)), om 29 1, oo 30 (.call (.t 24) [(.t 28), (.t 29)]), oo 31 (.bin .lss (.t 30) (ki 0))])
 (.cond (.t 31)
 (.reg false [om 32 11, oo 33 (.bin .add (.t 32) (ki 1)), om 9 33])
 (.reg false [om 34 11, om 10 34]))))))))
 (.seq (.reg false [om 35 9, om 36 9, om 37 8, oo 38 (.bin .lss (.t 36) (.t 37)), om 39 38, og 40 39 true (.mv (.t 2)), og 41 39 true (.mv (.t 0)), og 42 39 true (.mv (.t 9)), og 43 39 true (.ia 2 (.t 41) (.t 42)), og 44 39 true (.ld true 2 (.t 43)), og 45 39 true (.mv (.t 1)), og 46 39 true (.call (.t 40) [(.t 44), (.t 45)]), og 47 39 true (.bin .eql (.t 46) (ki 0)), oo 48 (.pick (.t 39) (.t 47) (kb false)), om 6 35, om 7 48])
 .ret)))))
abbrev n_slices_BinarySearchFunc_api_Line_api_Line_string : Nat := 217
theorem F_slices_BinarySearchFunc_api_Line_api_Line_string : Fun Tryz.prog n_slices_BinarySearchFunc_api_Line_api_Line_string 49 c_slices_BinarySearchFunc_api_Line_api_Line_string [.t 6, .t 7] := ⟨⟨Tryz.f217, _, Tryz.func217, by kernel_rfl, rfl, rfl, by kernel_rfl, by kernel_rfl⟩⟩
def c_shelf_line_1 : C :=
 (.seq (.reg false [oo 2 (.box 136 2 (.t 0)), oo 4 (.mv (ki 0))])
 (.seq (.reg false [oo 5 (.fa 0 (.t 2)), oo 6 (.ld false 1 (.t 5)), om 7 1, oo 8 (.call (kf 105) [(.t 6), (.t 7)]), om 4 8])
 .ret))
abbrev n_shelf_line_1 : Nat := 218
theorem F_shelf_line_1 : Fun Tryz.prog n_shelf_line_1 9 c_shelf_line_1 [.t 4] := ⟨⟨Tryz.f218, _, Tryz.func218, by kernel_rfl, rfl, rfl, by kernel_rfl, by kernel_rfl⟩⟩
def c_samples_at : C :=
 (.seq (.reg false [oo 4 (.mv (ki 0)), oo 5 (.mv (kb false))])
 (.seq (.reg false [om 6 0, om 7 1, oo 8 (.call (kf 238) [(.t 6), (.t 7), (kf 239)]), oo 9 (.ex (.t 8) 0), oo 10 (.ex (.t 8) 1), om 4 9, om 5 10])
 .ret))
abbrev n_samples_at : Nat := 221
theorem F_samples_at : Fun Tryz.prog n_samples_at 11 c_samples_at [.t 4, .t 5] := ⟨⟨Tryz.f221, _, Tryz.func221, by kernel_rfl, rfl, rfl, by kernel_rfl, by kernel_rfl⟩⟩
def c_slices_Insert_api_Sample_api_Sample : C :=
 (.seq (.reg false [oo 6 (.mv (.k (.one (.c (.v (.slice none 0 0))))))])
 (.seq (.reg false [om 10 0, om 11 1, oo 12 (.slc 2 (.t 10) (some (.t 11)) none)])
 (.seq (.reg false [om 13 2, oo 14 (.len (.t 13)), om 7 14])
 (.seq (.seq (.reg false [om 15 7, oo 16 (.bin .eql (.t 15) (ki 0))])
 (.cond (.t 16)
 (.seq (.reg false [om 17 0, om 6 17])
 .ret)
 .skip))
 (.seq (.reg false [om 18 0, oo 19 (.len (.t 18)), om 8 19])
 (.seq (.seq (.reg false [om 20 1, om 21 8, oo 22 (.bin .eql (.t 20) (.t 21))])
 (.cond (.t 22)
 (.seq (.reg false [om 23 0, om 24 2, oo 25 (.app 63 2 16 [.int .i64 0, .int .i64 0] (.t 23) (.t 24)), om 6 25])
 .ret)
 .skip))
 (.seq (.seq (.reg false [om 26 8, om 27 7, oo 28 (.bin .add (.t 26) (.t 27)), om 29 0, oo 30 (.cap (.t 29)), oo 31 (.bin .gtr (.t 28) (.t 30))])
 (.cond (.t 31)
 (.seq (.reg false [om 32 0, om 33 1, oo 34 (.slc 2 (.t 32) none (some (.t 33))), om 35 8, om 36 7, oo 37 (.bin .add (.t 35) (.t 36)), om 38 1, oo 39 (.bin .sub (.t 37) (.t 38)), oo 40 (.apz 63 2 16 [.int .i64 0, .int .i64 0] (.t 34) (.t 39)), om 9 40])
 (.seq (.reg false [om 41 9, om 42 1, oo 43 (.slc 2 (.t 41) (some (.t 42)) none), om 44 2, oo 45 (.cpy 2 (.t 43) (.t 44))])
 (.seq (.reg true [om 46 9, om 47 1, om 48 7, oo 49 (.bin .add (.t 47) (.t 48)), oo 50 (.slc 2 (.t 46) (some (.t 49)) none), om 51 0, om 52 1, oo 53 (.slc 2 (.t 51) (some (.t 52)) none), oo 54 (.cpy 2 (.t 50) (.t 53))])
 (.seq (.reg false [om 55 9, om 6 55])
 .ret))))
 .skip))
 (.seq (.reg false [om 56 0, om 57 8, om 58 7, oo 59 (.bin .add (.t 57) (.t 58)), oo 60 (.slc 2 (.t 56) none (some (.t 59))), om 0 60])
 (.seq (.seq (.reg false [om 61 2, om 62 0, om 63 1, om 64 7, oo 65 (.bin .add (.t 63) (.t 64)), oo 66 (.slc 2 (.t 62) (some (.t 65)) none), oo 67 (.call (kf 240) [(.t 61), (.t 66)]), oo 68 (.un .not (.t 67))])
 (.cond (.t 68)
 (.seq (.reg true [om 69 0, om 70 1, om 71 7, oo 72 (.bin .add (.t 70) (.t 71)), oo 73 (.slc 2 (.t 69) (some (.t 72)) none), om 74 0, om 75 1, oo 76 (.slc 2 (.t 74) (some (.t 75)) none), oo 77 (.cpy 2 (.t 73) (.t 76))])
 (.seq (.reg false [om 78 0, om 79 1, oo 80 (.slc 2 (.t 78) (some (.t 79)) none), om 81 2, oo 82 (.cpy 2 (.t 80) (.t 81))])
 (.seq (.reg false [om 83 0, om 6 83])
 .ret)))
 .skip))
 (.seq (.reg false [om 84 0, om 85 8, oo 86 (.slc 2 (.t 84) (some (.t 85)) none), om 87 2, oo 88 (.cpy 2 (.t 86) (.t 87))])
 (.seq (.reg false [om 89 0, om 90 1, oo 91 (.slc 2 (.t 89) (some (.t 90)) none), om 92 7, oo 93 (.call (kf 241) [(.t 91), (.t 92)])])
 (.seq (.reg false [om 94 0, om 6 94])
 .ret))))))))))))
abbrev n_slices_Insert_api_Sample_api_Sample : Nat := 222
theorem F_slices_Insert_api_Sample_api_Sample : Fun Tryz.prog n_slices_Insert_api_Sample_api_Sample 95 c_slices_Insert_api_Sample_api_Sample [.t 6] := ⟨⟨Tryz.f222, _, Tryz.func222, by kernel_rfl, rfl, rfl, by kernel_rfl, by kernel_rfl⟩⟩
def c_slices_IndexFunc_api_Line_api_Line : C :=
 (.seq (.reg false [oo 4 (.mv (ki 0))])
 (.seq (.seq (.reg false [om 6 0, oo 7 (.len (.t 6)), oo 8 (.mv (ki 0))])
 (.block 0 (.loop (.seq (.reg false [oo 9 (.bin .lss (.t 8) (.t 7))])
 (.seq (.cond (.t 9)
 .skip
 (.exit 0))
 (.seq (.block 1 (.seq (.reg false [om 10 8, om 5 10])
 (.seq (.reg false [om 11 1, om 12 0, om 13 5, oo 14 (.ia 2 (.t 12) (.t 13)), oo 15 (.ld true 2 (.t 14)), oo 16 (.call (.t 11) [(.t 15)])])
 (.cond (.t 16)
 (.seq (.reg false [om 17 5, om 4 17])
 .ret)
 .skip))))
 (.reg false [oo 18 (.bin .add (.t 8) (ki 1)), om 8 18])))))))
 (.seq (.reg false [oo 4 (.mv (ki (-1)))])
 .ret)))
abbrev n_slices_IndexFunc_api_Line_api_Line : Nat := 223
theorem F_slices_IndexFunc_api_Line_api_Line : Fun Tryz.prog n_slices_IndexFunc_api_Line_api_Line 19 c_slices_IndexFunc_api_Line_api_Line [.t 4] := ⟨⟨Tryz.f223, _, Tryz.func223, by kernel_rfl, rfl, rfl, by kernel_rfl, by kernel_rfl⟩⟩
def c_total_rate : C :=
 (.seq (.reg false [oo 2 (.mv (ki 0)), oo 3 (.mv (kb false))])
 (.seq (.seq (.reg false [om 7 0, oo 8 (.len (.t 7)), oo 9 (.bin .lss (.t 8) (ki 2))])
 (.cond (.t 9)
 (.seq (.reg false [oo 2 (.mv (ki 0)), oo 3 (.mv (kb false))])
 .ret)
 .skip))
 (.seq (.reg false [oo 4 (.mv (ki 0))])
 (.seq (.seq (.reg false [oo 5 (.mv (ki 1))])
 (.block 0 (.loop (.seq (.seq (.reg false [om 10 5, om 11 0, oo 12 (.len (.t 11)), oo 13 (.bin .lss (.t 10) (.t 12))])
 (.cond (.t 13)
 .skip
 (.exit 0)))
 (.seq (.block 1 (.seq (.reg true [om 16 0, om 17 5, oo 18 (.ia 2 (.t 16) (.t 17)), oo 19 (.fa 1 (.t 18)), oo 20 (.ld false 1 (.t 19)), om 21 0, om 22 5, oo 23 (.bin .sub (.t 22) (ki 1)), oo 24 (.ia 2 (.t 21) (.t 23)), oo 25 (.fa 1 (.t 24)), oo 26 (.ld false 1 (.t 25)), oo 27 (.bin .sub (.t 20) (.t 26)), om 6 27])
 (.seq (.reg false [om 28 6, oo 29 (.bin .geq (.t 28) (ki 0))])
 (.cond (.t 29)
 (.reg false [om 30 4, om 31 6, oo 32 (.bin .add (.t 30) (.t 31)), om 4 32])
 (.reg false [om 33 4, om 34 0, om 35 5, oo 36 (.ia 2 (.t 34) (.t 35)), oo 37 (.fa 1 (.t 36)), oo 38 (.ld false 1 (.t 37)), oo 39 (.mx (ki 0) (.t 38)), oo 40 (.bin .add (.t 33) (.t 39)), om 4 40])))))
 (.reg false [om 14 5, oo 15 (.bin .add (.t 14) (ki 1)), om 5 15]))))))
 (.seq (.reg true [om 41 4, oo 42 (.bin .mul (.t 41) (ki 60)), om 43 0, om 44 0, oo 45 (.len (.t 44)), oo 46 (.bin .sub (.t 45) (ki 1)), oo 47 (.ia 2 (.t 43) (.t 46)), oo 48 (.fa 0 (.t 47)), oo 49 (.ld false 1 (.t 48)), om 50 0, oo 51 (.ia 2 (.t 50) (ki 0)), oo 52 (.fa 0 (.t 51)), oo 53 (.ld false 1 (.t 52)), oo 54 (.bin .sub (.t 49) (.t 53)), oo 55 (.bin .quo (.t 42) (.t 54)), om 2 55, oo 3 (.mv (kb true))])
 .ret)))))
abbrev n_total_rate : Nat := 224
theorem F_total_rate : Fun Tryz.prog n_total_rate 56 c_total_rate [.t 2, .t 3] := ⟨⟨Tryz.f224, _, Tryz.func224, by kernel_rfl, rfl, rfl, by kernel_rfl, by kernel_rfl⟩⟩
def c_total_Fold : C :=
 (.seq (.reg false [oo 6 (.mv (ki 0)), oo 7 (.mv (kb false))])
 (.seq (.seq (.reg false [om 8 1, om 9 2, oo 10 (.mn (.t 8) (.t 9)), oo 11 (.bin .lss (.t 10) (ki (-9007199254740992))), om 12 11, og 13 12 false (.mv (.t 1)), og 14 12 false (.mv (.t 2)), og 15 12 false (.mx (.t 13) (.t 14)), og 16 12 false (.bin .gtr (.t 15) (ki 9007199254740992)), oo 17 (.pick (.t 12) (kb true) (.t 16))])
 (.cond (.t 17)
 (.seq (.reg false [oo 6 (.mv (ki 0)), oo 7 (.mv (kb false))])
 .ret)
 .skip))
 (.seq (.seq (.reg false [om 18 0])
 (.block 0 (.seq (.seq (.reg false [oo 20 (.bin .eql (.t 18) (ki 1)), om 19 20])
 (.cond (.t 19)
 .skip
 (.reg false [oo 21 (.bin .eql (.t 18) (ki 4)), om 19 21])))
 (.cond (.t 19)
 (.seq (.reg false [om 22 1, om 23 2, oo 24 (.bin .add (.t 22) (.t 23)), om 6 24, oo 7 (.mv (kb true))])
 .ret)
 (.seq (.reg false [oo 26 (.bin .eql (.t 18) (ki 2)), om 25 26])
 (.cond (.t 25)
 (.seq (.reg false [om 27 1, om 28 2, oo 29 (.mn (.t 27) (.t 28)), om 6 29, oo 7 (.mv (kb true))])
 .ret)
 (.seq (.reg false [oo 31 (.bin .eql (.t 18) (ki 3)), om 30 31])
 (.cond (.t 30)
 (.seq (.reg false [om 32 1, om 33 2, oo 34 (.mx (.t 32) (.t 33)), om 6 34, oo 7 (.mv (kb true))])
 .ret)
 .skip))))))))
 (.seq (.reg false [oo 6 (.mv (ki 0)), oo 7 (.mv (kb false))])
 .ret))))
abbrev n_total_Fold : Nat := 225
theorem F_total_Fold : Fun Tryz.prog n_total_Fold 35 c_total_Fold [.t 6, .t 7] := ⟨⟨Tryz.f225, _, Tryz.func225, by kernel_rfl, rfl, rfl, by kernel_rfl, by kernel_rfl⟩⟩
def c_slices_BinarySearchFunc_api_Sample_api_Sample_int : C :=
 (.seq (.reg false [oo 6 (.mv (ki 0)), oo 7 (.mv (kb false))])
 (.seq (.reg false [om 12 0, oo 13 (.len (.t 12)), om 8 13])
 (.seq (.reg false [om 14 8, oo 9 (.mv (ki 0)), om 10 14])
 (.seq (.block 0 (.loop (.seq (.seq (.reg false [om 15 9, om 16 10, oo 17 (.bin .lss (.t 15) (.t 16))])
 (.cond (.t 17)
 .skip
 (.exit 0)))
 (.block 1 (.seq (.reg false [om 18 9, om 19 10, oo 20 (.bin .add (.t 18) (.t 19)), oo 21 (.cvi .u64 (.t 20)), oo 22 (.bin .shr (.t 21) (.k (.one (.c (.v (.int .u64 1)))))), oo 23 (.cvi .i64 (.t 22)), om 11 23])
 (.seq (.reg false [om 24 2, om 25 0, om 26 11, oo 27 (.ia 2 (.t 25) (.t 26)), oo 28 (.ld true 2 (.t 27)), om 29 1, oo 30 (.call (.t 24) [(.t 28), (.t 29)]), oo 31 (.bin .lss (.t 30) (ki 0))])
 (.cond (.t 31)
 (.reg false [om 32 11, oo 33 (.bin .add (.t 32) (ki 1)), om 9 33])
 (.reg false [om 34 11, om 10 34]))))))))
 (.seq (.reg false [om 35 9, om 36 9, om 37 8, oo 38 (.bin .lss (.t 36) (.t 37)), om 39 38, og 40 39 true (.mv (.t 2)), og 41 39 true (.mv (.t 0)), og 42 39 true (.mv (.t 9)), og 43 39 true (.ia 2 (.t 41) (.t 42)), og 44 39 true (.ld true 2 (.t 43)), og 45 39 true (.mv (.t 1)), og 46 39 true (.call (.t 40) [(.t 44), (.t 45)]), og 47 39 true (.bin .eql (.t 46) (ki 0)), oo 48 (.pick (.t 39) (.t 47) (kb false)), om 6 35, om 7 48])
 .ret)))))
abbrev n_slices_BinarySearchFunc_api_Sample_api_Sample_int : Nat := 238
theorem F_slices_BinarySearchFunc_api_Sample_api_Sample_int : Fun Tryz.prog n_slices_BinarySearchFunc_api_Sample_api_Sample_int 49 c_slices_BinarySearchFunc_api_Sample_api_Sample_int [.t 6, .t 7] := ⟨⟨Tryz.f238, _, Tryz.func238, by kernel_rfl, rfl, rfl, by kernel_rfl, by kernel_rfl⟩⟩
def c_samples_at_1 : C :=
 (.seq (.reg false [oo 2 (.box 63 2 (.t 0)), oo 4 (.mv (ki 0))])
 (.seq (.reg false [oo 5 (.fa 0 (.t 2)), oo 6 (.ld false 1 (.t 5)), om 7 1, oo 8 (.call (kf 169) [(.t 6), (.t 7)]), om 4 8])
 .ret))
abbrev n_samples_at_1 : Nat := 239
theorem F_samples_at_1 : Fun Tryz.prog n_samples_at_1 9 c_samples_at_1 [.t 4] := ⟨⟨Tryz.f239, _, Tryz.func239, by kernel_rfl, rfl, rfl, by kernel_rfl, by kernel_rfl⟩⟩
end Go.Proofs.YtpdcpdngckpgbaaGreat.A
end
section
namespace Go.Proofs.YtpdcpdngckpgbaaGreat.A
open Go Go.Proofs.YtpdcpdngckpgbaaGreatAbs
structure Smp where
 t : Int
 v : Int
instance : Inhabited Smp := ⟨⟨0, 0⟩⟩
instance : DecidableEq Smp := fun a b => if h : a.t = b.t ∧ a.v = b.v then isTrue (by cases a; cases b; simp_all) else isFalse (fun e => h (by rw [e]; exact ⟨rfl, rfl⟩))
@[go_sem] def Smp.c (x : Smp) : Nat → CV
 | 0 => .v (.int .i64 x.t)
 | _ => .v (.int .i64 x.v)
abbrev smpCV (l : List Smp) : CV := immL 2 Smp.c l
abbrev smpL (l : List Smp) : Pt := .one (.c (smpCV l))
abbrev smpA (s : Smp) : Pt := .agg [.c (.v (.int .i64 s.t)), .c (.v (.int .i64 s.v))]
def smOk (s : Smp) : Bool := decide (0 ≤ s.t) && decide (s.t ≤ 1099511627776) && decide (-1099511627776 ≤ s.v) && decide (s.v ≤ 1099511627776)
def smAt (l : List Smp) (i : Nat) : Bool := smOk (l.getD i default) && (i == 0 || decide ((l.getD (i - 1) default).t < (l.getD i default).t))
def smsOk (l : List Smp) : Bool := decide (l.length ≤ 64) && (List.range l.length).all (smAt l)
theorem all_f {n k : Nat} {p : Nat → Bool} (hk : k < n) (h : p k = false) : (List.range n).all p = false := by
 rw [List.all_eq_false]
 exact ⟨k, List.mem_range.2 hk, by simp [h]⟩
theorem all_t {n : Nat} {p : Nat → Bool} (h : ∀ i, i < n → p i = true) : (List.range n).all p = true := by
 rw [List.all_eq_true]
 exact fun i hi => h i (List.mem_range.1 hi)
theorem smsOk_f {l : List Smp} {k : Nat} (hk : k < l.length) (h : smAt l k = false) : smsOk l = false := by rw [smsOk, all_f hk h, Bool.and_false]
theorem smsOk_t {l : List Smp} (h : ∀ i, i < l.length → smAt l i = true) : smsOk l = decide (l.length ≤ 64) := by rw [smsOk, all_t h, Bool.and_true]
theorem wpr {k : Nat} (h0 : 0 < k) (hk : k ≤ 140737488355328) : (IntKind.i64.wrap ((k : Int) - 1)).toNat = k - 1 := by rw [w64p h0 (by omega)]; rfl
theorem smAt_key (l : List Smp) {k : Nat} (hk : k ≤ 140737488355328) : (decide ((l.getD k default).t < 0) || decide (1099511627776 < (l.getD k default).t) || decide ((l.getD k default).v < -1099511627776) || decide (1099511627776 < (l.getD k default).v) || decide (0 < (k : Int)) && decide ((l.getD k default).t ≤ (l.getD (IntKind.i64.wrap ((k : Int) - 1)).toNat default).t)) = !smAt l k := by
 unfold smAt smOk
 rw [Bool.eq_iff_iff]
 by_cases h0 : k = 0
 ·subst h0
  simp only [Bool.or_eq_true, Bool.and_eq_true, Bool.not_eq_true', Bool.and_eq_false_iff, Bool.or_eq_false_iff, decide_eq_true_eq, decide_eq_false_iff_not]
  simp
 ·rw [wpr (by omega) hk]
  have e : (k == 0) = false := by simpa using h0
  simp only [e, Bool.false_or, Bool.or_eq_true, Bool.and_eq_true, Bool.not_eq_true', Bool.and_eq_false_iff, Bool.or_eq_false_iff, decide_eq_true_eq, decide_eq_false_iff_not]
  omega
set_option maxRecDepth 20000 in
theorem bCheck_rc (l : List Smp) (hl : l.length ≤ 140737488355328) (M : List Blk) : CallR Tryz.prog M n_block_Check [smpL l] (.i (if smsOk l then 0 else 1)) M := by
 refine callP F_block_Check (Nat.le_of_ble_eq_true rfl) (by simp only [go_sem]) (by simp only [go_sem]) ?_ M
 simp only [c_block_Check, go_sem]
 refine ⟨fun hc => ?_, fun hc => ?_⟩
 ·rw [smsOk, decide_eq_false (by omega), Bool.false_and]; rfl
 refine V_loop (ι := Nat) (J := fun k => k ≤ l.length ∧ ∀ i, i < k → smAt l i = true) (env := fun k => [(0, .p (smpL l)), (8, .p (smpL l)), (9, .i l.length), (10, .i k)]) (mem := fun _ => []) (μ := fun k => l.length - k) 0 ⟨Nat.zero_le _, fun j hj => by omega⟩ (into0 (by simp only [go_sem])) ?_
 rintro k ⟨hk, hok⟩
 simp only [go_sem]
 rw [smAt_key l (by omega)]
 refine ⟨fun h1 => ⟨by omega, fun hc => ?_, fun hc => ?_, fun hc => ⟨k + 1, ⟨by omega, fun j hj => ?_⟩, by omega, into0 ?_⟩⟩, fun h1 => ?_⟩
 ·have hc := (Bool.and_eq_true_iff.1 hc).2
  rw [w64p (by simpa using hc) (by omega)]
  omega
 ·rw [smsOk_f h1 (by simpa using hc)]; rfl
 ·by_cases e : j = k
  ·subst e; simpa using hc
  ·exact hok j (by omega)
 ·simp only [go_sem, w64s (show k < 9223372036854775807 by omega)]
 ·rw [smsOk_t (fun i hi => hok i (by omega)), decide_eq_true (by omega)]; rfl
set_option maxRecDepth 20000 in
theorem rMay_rc (l : List Smp) (hl : l.length ≤ 140737488355328) (M : List Blk) : CallR Tryz.prog M n_windroseref11_May [smpL l] (.b (smsOk l)) M := by
 refine callP F_windroseref11_May (Nat.le_of_ble_eq_true rfl) (by simp only [go_sem]) (by simp only [go_sem]) ?_ M
 simp only [c_windroseref11_May, go_sem]
 refine V_loop (ι := Nat) (J := fun k => k ≤ l.length ∧ ∀ i, i < k → smAt l i = true) (env := fun k => [(0, .p (smpL l)), (3, .i k)]) (mem := fun _ => []) (μ := fun k => l.length - k) 0 ⟨Nat.zero_le _, fun j hj => by omega⟩ (into0 (by simp only [go_sem])) ?_
 rintro k ⟨hk, hok⟩
 simp only [go_sem]
 rw [smAt_key l (by omega)]
 refine ⟨fun h1 => ⟨by omega, fun _ => by omega, fun _ => by omega, fun _ => by omega, fun hc => ?_, fun _ => by omega, fun hc => ?_, fun hc => ⟨k + 1, ⟨by omega, fun j hj => ?_⟩, by omega, into0 ?_⟩⟩, fun h1 => ?_⟩
 ·have hc := (Bool.and_eq_true_iff.1 hc).2
  rw [w64p (by simpa using hc) (by omega)]
  omega
 ·rw [smsOk_f h1 (by simpa using hc)]
 ·by_cases e : j = k
  ·subst e; simpa using hc
  ·exact hok j (by omega)
 ·simp only [go_sem, w64s (show k < 9223372036854775807 by omega)]
 ·rw [smsOk_t (fun i hi => hok i (by omega))]
  simp only [decide_eq_decide]
  omega
theorem smp_eq (x y : Smp) : eqCells [1, 1] (cellsUp (Smp.c x) 0 2) (cellsUp (Smp.c y) 0 2) = some (decide (x = y)) := by
 simp only [go_sem, if_true, Option.some.injEq, Bool.and_true]
 rw [Bool.eq_iff_iff]
 cases x; cases y
 simp
end Go.Proofs.YtpdcpdngckpgbaaGreat.A
end
section
namespace Go.Proofs.YtpdcpdngckpgbaaGreat.A
open Go Go.Proofs.YtpdcpdngckpgbaaGreatAbs
theorem isNaN_rc (a : Int) (M : List Blk) : CallR Tryz.prog M n_cmp_isNaN_int [.i a] (.b false) M := by
 refine callP F_cmp_isNaN_int (Nat.le_of_ble_eq_true rfl) (by simp only [go_sem]) (by simp only [go_sem]) ?_ M
 simp only [c_cmp_isNaN_int, go_sem, bne_self_eq_false]
def cmpI (a b : Int) : Int := if a < b then -1 else if b < a then 1 else 0
theorem cmpI_lt (a b : Int) : (cmpI a b < 0) = (a < b) := by
 unfold cmpI
 split <;> rename_i h
 ·simp [h]
 ·split <;> simp [h]
theorem cmpI_eq (a b : Int) : (cmpI a b == 0) = decide (a = b) := by
 unfold cmpI
 split <;> rename_i h
 ·simp; omega
 ·split <;> simp <;> omega
theorem CompareI_rc (a b : Int) (M : List Blk) : CallR Tryz.prog M n_cmp_Compare_int [.i a, .i b] (.i (cmpI a b)) M := by
 refine callP F_cmp_Compare_int (Nat.le_of_ble_eq_true rfl) (by simp only [go_sem]) (by simp only [go_sem]) ?_ M
 simp only [c_cmp_Compare_int, go_sem]
 refine call0 (isNaN_rc _) ?_
 simp only [go_sem]
 refine call0 (isNaN_rc _) ?_
 simp only [go_sem, cmpI]
 grind
theorem at1_rc (x : Smp) (k : Int) (M : List Blk) : CallR Tryz.prog M n_samples_at_1 [smpA x, .i k] (.i (cmpI x.t k)) M := by
 refine callP F_samples_at_1 (Nat.le_of_ble_eq_true rfl) (by simp only [go_sem]) (by simp only [go_sem]) ?_ M
 simp only [c_samples_at_1, go_sem]
 refine call0 (CompareI_rc _ _) ?_
 simp only [go_sem]
def atS (l : List Smp) (t : Int) : Nat := bsF (fun i => decide (cmpI (l.getD i default).t t < 0)) 0 l.length
def hitS (l : List Smp) (t : Int) : Bool := decide (atS l t < l.length) && (cmpI (l.getD (atS l t) default).t t == 0)
theorem atS_le (l : List Smp) (t : Int) : atS l t ≤ l.length := (bsF_le l.length 0 l.length (by omega) (Nat.zero_le _)).2
theorem at_rc (l : List Smp) (hl : l.length ≤ 140737488355328) (t : Int) (M : List Blk) : CallR Tryz.prog M n_samples_at [smpL l, .i t] (.tup [.i (atS l t : Nat), .b (hitS l t)]) M := by
 refine callP F_samples_at (Nat.le_of_ble_eq_true rfl) (by simp only [go_sem]) (by simp only [go_sem]) ?_ M
 simp only [c_samples_at, go_sem]
 refine call0 (fun M => bs_rc F_slices_BinarySearchFunc_api_Sample_api_Sample_int l.length (by omega) (fun i j => (l.getD i default).c j) (.i t) n_samples_at_1 0 (fun _ => default) (fun i => cmpI (l.getD i default).t t) (by simp only [go_sem]) (fun i hi => absurd hi (Nat.not_lt_zero _)) (fun i hi M => at1_rc (l.getD i default) t M) M) ?_
 simp only [go_sem]
 exact ⟨rfl, rfl⟩
theorem ovl_smp : Ovl Tryz.prog 240 2 := ⟨⟨_, 128, 4, 63, Tryz.func240, by kernel_rfl, by kernel_rfl, by kernel_rfl, by kernel_rfl, by kernel_rfl, by kernel_rfl⟩⟩
def putS (l : List Smp) (s : Smp) : List Smp × Int :=
 if smsOk l = false then ([], 1) else if smOk s = false then (l, 1) else if hitS l s.t = true then (l, if l.getD (atS l s.t) default = s then 7 else 8) else if l.length = 64 then (l, 6) else (l.take (atS l s.t) ++ s :: l.drop (atS l s.t), 0)
theorem smsOk_one (s : Smp) : smsOk [s] = smOk s := by simp [smsOk, smAt, List.range_succ]
theorem smsOk_len {l : List Smp} (h : smsOk l = true) : l.length ≤ 64 := by
 unfold smsOk at h
 simpa using (Bool.and_eq_true_iff.1 h).1
theorem smp_ext {x y : Smp} (h : (x.t == y.t && x.v == y.v) = true) : x = y := by
 cases x; cases y
 simp at h
 rw [h.1, h.2]
theorem smp_ne {x y : Smp} (h : (x.t == y.t && x.v == y.v) = false) : x ≠ y := by
 rintro rfl
 simp at h
set_option maxRecDepth 20000 in
theorem Put_rc (l : List Smp) (hl : l.length ≤ 140737488355328) (s : Smp) (M : List Blk) : CallR Tryz.prog M n_samples_Put [smpL l, smpA s] (.tup [smpL (putS l s).1, .i (putS l s).2]) M := by
 refine callPG F_samples_Put (Nat.le_of_ble_eq_true rfl) (by simp only [go_sem]) ?_ M
 refine run_seqV ?_
 simp only [go_sem]
 refine run_seqV ?_
 simp only [go_sem]
 refine call0 (bCheck_rc l hl) ?_
 simp only [go_sem]
 cases hok : smsOk l with
 | false =>
  have hp : putS l s = ([], 1) := by rw [putS, if_pos hok]
  rw [hp]
  simp only [Bool.false_eq_true, if_false, go_sem]
  exact fin0 (.inr rfl) rfl trivial (subS_tup2 (subP_one (nil_sub (α := Smp))) (SubP.refl _)) (by simp only [go_sem])
 | true =>
  have hl64 := smsOk_len hok
  simp only [if_true, go_sem]
  refine run_seqV ?_
  simp only [go_sem]
  refine call1 (cloneO_rc (c := Smp.c) F_slices_Clone_api_Sample_api_Sample l (by omega) (by simp only [go_sem, ltB])) (by simp only [go_sem]) (fun h => Bool.noConfusion h) ?_
  simp only [go_sem]
  refine run_seqV ?_
  simp only [go_sem]
  refine callL (at_rc l hl s.t []) ⟨snapL l rfl, Snap.same _ trivial, trivial⟩ (by simp only [go_sem]) ?_
  simp only [go_sem]
  have hend : ∀ (l : List Smp) (n : Int) (e : Nat → SV) (X : List Blk) (v : Nat) (f : Bool), e 4 = .p (.one (.arr 2 1 v 0 l.length)) → e 5 = .i n → X[1]? = some (.rows 63 2 v (rowsL 2 Smp.c l) f) → FinK 53 0 [.t 4, .t 5] (.tup [smpL l, .i n]) [] .ret ⟨e, X⟩ := by
   intro l n e X v f h4 h5 hX
   refine finQ (.inr rfl) (gh_freeze (b := 1) (l := rowsL 2 Smp.c l) hX (rowsL_closed l)) (qs := [.one (.c (.imm 2 l.length fun i j => toC (((rowsL 2 Smp.c l).getD (0 + i) []).getD j default))), .i n]) (cnd := True) ?_ trivial (subS_tup2 (subP_one (frz_sub l)) (SubP.refl _)) (by simp only [go_sem])
   simp only [go_sem, h4, h5, Nat.zero_add]
  refine run_seqV ?_
  simp only [go_sem]
  refine callL (bCheck_rc [s] (Nat.le_of_ble_eq_true rfl) []) ⟨snapL [s] rfl, trivial⟩ (by simp only [go_sem]) ?_
  simp only [go_sem, smsOk_one]
  cases hs : smOk s with
  | false =>
   have hp : putS l s = (l, 1) := by rw [putS, if_neg (by rw [hok]; decide), if_pos hs]
   rw [hp]
   simp only [Bool.false_eq_true, if_false, go_sem]
   exact hend l 1 _ _ _ _ (by simp only [go_sem]) (by simp only [go_sem]) rfl
  | true =>
  have hat := atS_le l s.t
  have hhit : hitS l s.t = true → atS l s.t < l.length := fun h => by
   unfold hitS at h
   exact of_decide_eq_true (Bool.and_eq_true_iff.1 h).1
  have hp : putS l s = if hitS l s.t = true then (l, if l.getD (atS l s.t) default = s then 7 else 8) else if l.length = 64 then (l, 6) else (l.take (atS l s.t) ++ s :: l.drop (atS l s.t), 0) := by
   rw [putS, if_neg (by rw [hok]; decide), if_neg (by rw [hs]; decide)]
  rw [hp]
  have hins := ins_rc (M := [.rows 63 2 0 [[.c (.v (.int .i64 s.t)), .c (.v (.int .i64 s.v))]] true, .rows 63 2 1 (rowsL 2 Smp.c l) false, .rows 63 2 0 [[.c (.v (.int .i64 s.t)), .c (.v (.int .i64 s.v))]] true, .rows 63 2 0 [[.c (.v (.int .i64 s.t)), .c (.v (.int .i64 s.v))]] true]) (b := 1) (c := 3) (i := atS l s.t) (l := rowsL 2 Smp.c l) (row := cellsUp (Smp.c s) 0 2) F_slices_Insert_api_Sample_api_Sample ovl_smp (by decide) (by decide) rfl rfl (by rw [rowsL_len]; exact hat) (by rw [rowsL_len]; omega) (by rw [rowsL_len]; omega) (by
   simp only [go_sem, ltB]
   exact fun r hr => (rowsL_row r hr).2 4)
  rw [rowsL_ins, rowsL_len] at hins
  have hil : (l.take (atS l s.t) ++ s :: l.drop (atS l s.t)).length = l.length + 1 := by
   simp only [List.length_append, List.length_cons, List.length_take, List.length_drop]; omega
  cases hh : hitS l s.t with
  | true =>
   have hr := hhit hh
   have hg := rowsL_getD (sz := 2) (c := Smp.c) hr
   simp only [hh, hg, smp_eq, go_sem, hs]
   refine ⟨by omega, hr, fun he => ?_, fun he => ?_⟩
   ·rw [if_pos (smp_ext he)]
    exact hend l 7 _ _ _ _ (by simp only [go_sem]) (by simp only [go_sem]) rfl
   ·rw [if_neg (smp_ne he)]
    exact hend l 8 _ _ _ _ (by simp only [go_sem]) (by simp only [go_sem]) rfl
  | false =>
   by_cases hr : atS l s.t < l.length
   case' pos =>
    have hg := rowsL_getD (sz := 2) (c := Smp.c) hr
    simp only [hh, hg, go_sem]
   case' neg =>
    have hg : (rowsL 2 Smp.c l).getD (atS l s.t) [] = [] := by rw [List.getD_eq_getElem?_getD, List.getElem?_eq_none (by rw [rowsL_len]; omega)]; rfl
    simp only [hh, hg, go_sem]
   all_goals
    refine ⟨fun h64 => ?_, fun h64 => ?_⟩
    ·rw [if_pos (by omega)]
     exact hend l 6 _ _ _ _ (by simp only [go_sem]) (by simp only [go_sem]) rfl
    ·have h64' : ¬ l.length = 64 := by
      intro h
      rw [h] at h64
      exact absurd h64 (by decide)
     rw [if_neg h64']
     refine run_seqV ?_
     simp only [go_sem]
     refine call1 hins (by simp only [go_sem]) (fun h => Bool.noConfusion h) ?_
     rw [← hil]
     simp only [go_sem]
     refine run_ret ?_
     exact hend (l.take (atS l s.t) ++ s :: l.drop (atS l s.t)) 0 _ _ _ _ (by simp only [go_sem]) (by simp only [go_sem]) rfl
def zSmp : Smp := ⟨0, 0⟩
def getS (l : List Smp) (t : Int) : Smp × Bool := if hitS l t = true ∧ smsOk l = true then (l.getD (atS l t) default, true) else (zSmp, false)
theorem hit_lt {l : List Smp} {t : Int} (h : hitS l t = true) : atS l t < l.length := by
 unfold hitS at h
 exact of_decide_eq_true (Bool.and_eq_true_iff.1 h).1
set_option maxRecDepth 20000 in
theorem Get_rc (l : List Smp) (hl : l.length ≤ 140737488355328) (t : Int) (M : List Blk) : CallR Tryz.prog M n_samples_Get [smpL l, .i t] (.tup [smpA (getS l t).1, .b (getS l t).2]) M := by
 refine callP F_samples_Get (Nat.le_of_ble_eq_true rfl) (by simp only [go_sem]) (by simp only [go_sem]) ?_ M
 simp only [c_samples_Get, go_sem]
 refine call0 (at_rc l hl t) ?_
 simp only [go_sem]
 refine callg0 (fun _ => bCheck_rc l hl) ?_
 simp only [go_sem]
 cases hh : hitS l t with
 | false =>
  have hg : getS l t = (zSmp, false) := by rw [getS, if_neg (by rw [hh]; simp)]
  simp only [hg, zSmp, go_sem]
 | true =>
  have hr := hit_lt hh
  cases hk : smsOk l with
  | false =>
   have hg : getS l t = (zSmp, false) := by rw [getS, if_neg (by rw [hk]; simp)]
   simp only [hg, zSmp, go_sem]
  | true =>
   have hg : getS l t = (l.getD (atS l t) default, true) := by rw [getS, if_pos ⟨hh, hk⟩]
   simp only [hg, go_sem]
   omega
def rangeS (l : List Smp) (a b : Int) : List Smp := if smsOk l = true then (l.drop (atS l a)).take (atS l b - atS l a) else []
set_option maxRecDepth 20000 in
theorem Range_rc (l : List Smp) (hl : l.length ≤ 140737488355328) (a b : Int) (M : List Blk) : CallR Tryz.prog M n_samples_Range [smpL l, .i a, .i b] (.p (smpL (rangeS l a b))) M := by
 refine callP F_samples_Range (Nat.le_of_ble_eq_true rfl) (by simp only [go_sem]) (by simp only [go_sem]) ?_ M
 simp only [c_samples_Range, go_sem]
 refine call0 (bCheck_rc l hl) ?_
 simp only [go_sem]
 cases hk : smsOk l with
 | false =>
  have hg : rangeS l a b = [] := by rw [rangeS, if_neg (by rw [hk]; simp)]
  simp only [hg, go_sem, List.length_nil]
 | true =>
  have hg : rangeS l a b = (l.drop (atS l a)).take (atS l b - atS l a) := by rw [rangeS, if_pos hk]
  have h64 := smsOk_len hk
  have h1 := atS_le l a
  have h2 := atS_le l b
  simp only [go_sem]
  refine call0 (at_rc l hl a) ?_
  simp only [go_sem]
  refine call0 (at_rc l hl b) ?_
  simp only [go_sem]
  have hm : (if atS l a < atS l b then (atS l b : Int) else (atS l a : Int)).toNat - atS l a = atS l b - atS l a := by split <;> omega
  rw [hm]
  refine ⟨⟨by omega, by split <;> omega, by split <;> omega⟩, call1 (clone_rc F_slices_Clone_api_Sample_api_Sample ((l.drop (atS l a)).take (atS l b - atS l a)) (by rw [List.length_take, List.length_drop]; omega) _) ⟨le_slice (c := Smp.c) (by omega), trivial⟩ (fun h => Bool.noConfusion h) ?_⟩
  simp only [go_sem, hg]
def trimS (l : List Smp) (a : Int) : List Smp := if smsOk l = true then l.drop (atS l a) else []
set_option maxRecDepth 20000 in
theorem Trim_rc (l : List Smp) (hl : l.length ≤ 140737488355328) (a : Int) (M : List Blk) : CallR Tryz.prog M n_samples_Trim [smpL l, .i a] (.p (smpL (trimS l a))) M := by
 refine callP F_samples_Trim (Nat.le_of_ble_eq_true rfl) (by simp only [go_sem]) (by simp only [go_sem]) ?_ M
 simp only [c_samples_Trim, go_sem]
 refine call0 (bCheck_rc l hl) ?_
 simp only [go_sem]
 cases hk : smsOk l with
 | false =>
  have hg : trimS l a = [] := by rw [trimS, if_neg (by rw [hk]; simp)]
  simp only [hg, go_sem, List.length_nil]
 | true =>
  have hg : trimS l a = l.drop (atS l a) := by rw [trimS, if_pos hk]
  have h64 := smsOk_len hk
  have h1 := atS_le l a
  simp only [go_sem]
  refine call0 (at_rc l hl a) ?_
  simp only [go_sem]
  have e : (l.drop (atS l a)).take (l.length - atS l a) = l.drop (atS l a) := List.take_of_length_le (by rw [List.length_drop]; exact Nat.le_refl _)
  refine ⟨by omega, call1 (clone_rc F_slices_Clone_api_Sample_api_Sample ((l.drop (atS l a)).take (l.length - atS l a)) (by rw [List.length_take, List.length_drop]; omega) _) ⟨le_slice (c := Smp.c) (by omega), trivial⟩ (fun h => Bool.noConfusion h) ?_⟩
  rw [e]
  simp only [go_sem, hg]
end Go.Proofs.YtpdcpdngckpgbaaGreat.A
end
section
namespace Go.Proofs.YtpdcpdngckpgbaaGreat.A
open Go Go.Proofs.YtpdcpdngckpgbaaGreatAbs
def rgetI (l : List Smp) (t : Int) : Nat := l.findIdx fun x => decide (x.t = t)
def rgetS (l : List Smp) (t : Int) : Smp × Bool := if rgetI l t < l.length then (l.getD (rgetI l t) default, true) else (zSmp, false)
set_option maxRecDepth 20000 in
theorem rGet_rc (l : List Smp) (hl : l.length ≤ 140737488355328) (t : Int) (M : List Blk) : CallR Tryz.prog M n_windroseref12_Get [smpL l, .i t] (.tup [smpA (rgetS l t).1, .b (rgetS l t).2]) M := by
 refine callP F_windroseref12_Get (Nat.le_of_ble_eq_true rfl) (by simp only [go_sem]) (by simp only [go_sem]) ?_ M
 simp only [c_windroseref12_Get, go_sem]
 refine V_loop (ι := Nat) (J := fun k => k ≤ l.length ∧ ∀ i, i < k → (l.getD i default).t ≠ t) (env := fun k => [(0, .p (smpL l)), (1, .i t), (4, .p (.one (.ptr 0 0 0 0))), (6, .i k)]) (mem := fun _ => [.rows 63 2 0 [[.c (.v (.int .i64 0)), .c (.v (.int .i64 0))]] true]) (μ := fun k => l.length - k) 0 ⟨Nat.zero_le _, fun i hi => absurd hi (Nat.not_lt_zero _)⟩ ⟨[], by simp only [go_sem], Nat.zero_le _, by simp only [go_sem], by simp only [go_sem, ltB]⟩ ?_
 rintro k ⟨hk, hne⟩
 simp only [go_sem]
 refine ⟨fun h1 => ⟨by omega, fun hc => ⟨by omega, ?_⟩, fun hc => ⟨k + 1, ⟨by omega, fun i hi => ?_⟩, by omega, [], by simp only [go_sem], Nat.zero_le _, ?_, by simp only [go_sem, ltB]⟩⟩, fun h1 => ?_⟩
 ·have : rgetI l t = k := by
   rw [rgetI, List.findIdx_eq h1]
   refine ⟨by simpa [List.getD_eq_getElem?_getD, h1] using hc, fun i hi => ?_⟩
   simpa [List.getD_eq_getElem?_getD, show i < l.length by omega] using hne i hi
  simp only [rgetS, this, if_pos h1, go_sem]
 ·by_cases e : i = k
  ·subst e; exact hc
  ·exact hne i (by omega)
 ·simp only [go_sem, w64s (show k < 9223372036854775807 by omega)]
 ·have : ¬ rgetI l t < l.length := by
   have : rgetI l t = l.length := by
    rw [rgetI, List.findIdx_eq_length]
    intro y hy
    obtain ⟨j, hj, rfl⟩ := List.mem_iff_getElem.1 hy
    simpa [List.getD_eq_getElem?_getD, hj] using hne j (by omega)
   omega
  simp only [rgetS, if_neg this, zSmp, go_sem]
def wStepS (s : Smp) (p : List Smp × Bool) (x : Smp) : List Smp × Bool :=
 let q := if (!p.2 && decide (s.t < x.t)) = true then (p.1 ++ [s], true) else p
 (q.1 ++ [x], q.2)
def wAllS (s : Smp) (l : List Smp) : List Smp × Bool := l.foldl (wStepS s) ([], false)
def withS (l : List Smp) (s : Smp) : List Smp := if (wAllS s l).2 = true then (wAllS s l).1 else (wAllS s l).1 ++ [s]
theorem foldl_take {α β : Type} [Inhabited α] (f : β → α → β) (b : β) (l : List α) {k : Nat} (hk : k < l.length) : (l.take (k + 1)).foldl f b = f ((l.take k).foldl f b) (l.getD k default) := by
 rw [take_succ_getD default hk, List.foldl_append]; rfl
theorem wAllS_len (s : Smp) (l : List Smp) : ∀ p : List Smp × Bool, (l.foldl (wStepS s) p).1.length ≤ p.1.length + 2 * l.length := by
 induction l with
 | nil => intro p; simp
 | cons x l ih =>
  intro p
  rw [List.foldl_cons]
  refine Nat.le_trans (ih _) ?_
  have : (wStepS s p x).1.length ≤ p.1.length + 2 := by
   unfold wStepS
   simp only
   split <;> simp
  simp only [List.length_cons]
  omega
theorem smp_row (a : List Smp) (x : Smp) : rowsL 2 Smp.c a ++ [[AV.c (CV.v (Value.int IntKind.i64 x.t)), AV.c (CV.v (Value.int IntKind.i64 x.v))]] = rowsL 2 Smp.c (a ++ [x]) := rowsL_app1 a x
set_option maxRecDepth 20000 in
theorem rwith_rc (l : List Smp) (hl : l.length ≤ 1000) (s : Smp) (M : List Blk) : CallR Tryz.prog M n_windroseref12_with [smpL l, smpA s] (.p (smpL (withS l s))) M := by
 refine callPG F_windroseref12_with (Nat.le_of_ble_eq_true rfl) (by simp only [go_sem]) ?_ M
 refine run_seqV ?_
 simp only [go_sem]
 refine run_seqV ?_
 simp only [go_sem]
 refine run_seqV ?_
 simp only [go_sem]
 refine run_seqV ?_
 simp only [go_sem]
 refine R_loop (ι := Nat × Nat × Bool) (J := fun p => p.1 ≤ l.length)
  (env := fun p => [(0, .p (smpL l)), (3, .p (.one (.ptr 0 0 0 0))), (5, .p (.one (.arr 2 1 p.2.1 0 (wAllS s (l.take p.1)).1.length))), (6, .b (wAllS s (l.take p.1)).2), (7, .i p.1)])
  (mem := fun p => [.rows 63 2 0 [[.c (.v (.int .i64 s.t)), .c (.v (.int .i64 s.v))]] true, .rows 63 2 p.2.1 (rowsL 2 Smp.c (wAllS s (l.take p.1)).1) p.2.2])
  (μ := fun p => l.length - p.1) (0, 0, true) (Nat.zero_le _) ⟨[], ?_, Nat.zero_le _, ?_, ?_⟩ ?_
 ·simp only [go_sem, List.take_zero, wAllS, List.foldl_nil, rowsL_nil]
 ·simp only [go_sem, List.take_zero, wAllS, List.foldl_nil, List.length_nil]
 ·simp only [go_sem, ltB]
  exact fun r hr => (rowsL_row r hr).2 _
 rintro ⟨k, v, f⟩ hk
 simp only at hk
 refine run_seqV ?_
 simp only [go_sem]
 have hwl : (wAllS s (l.take k)).1.length ≤ 2 * k := by
  have := wAllS_len s (l.take k) ([], false)
  rw [List.length_take] at this
  simp only [List.length_nil] at this
  unfold wAllS
  omega
 refine ⟨fun h1 => ?_, fun h1 => ?_⟩
 ·have hst : wAllS s (l.take (k + 1)) = wStepS s (wAllS s (l.take k)) (l.getD k default) := foldl_take _ _ _ h1
  generalize hw : wAllS s (l.take k) = W at hst hwl ⊢
  obtain ⟨ws, put⟩ := W
  refine run_seq ?_
  refine run_block ?_
  refine run_seqV ?_
  simp only at hwl
  simp only [go_sem]
  have e3 : IntKind.i64.wrap ((k : Int) + 1) = ((k + 1 : Nat) : Int) := w64s (by omega)
  have hlx : (⟨(l.getD k default).t, (l.getD k default).v⟩ : Smp) = l.getD k default := rfl
  refine ⟨fun _ => by omega, fun hp => ⟨by omega, ?_⟩, fun hp => ?_⟩
  ·have hst' : wAllS s (l.take (k + 1)) = (ws ++ [s] ++ [l.getD k default], true) := by
    rw [hst, wStepS]; simp only [hp, if_true]
   refine V_sound ?_
   simp only [go_sem, smp_row, rowsL_len, List.length_append, List.length_cons, List.length_nil, Nat.zero_add, hlx]
   refine ⟨by omega, by omega, V_sound ?_⟩
   simp only [go_sem, e3]
   refine ⟨(k + 1, v + 1 + 1, false), h1, by simp only []; omega, [.rows 63 2 0 [[.c (.v (.int .i64 s.t)), .c (.v (.int .i64 s.v))]] true, .rows 63 2 0 [[.c (.v (.int .i64 (l.getD k default).t)), .c (.v (.int .i64 (l.getD k default).v))]] true], ?_, Nat.zero_le _, ?_, ?_⟩
   ·simp only [hst', go_sem, smp_row]
   ·simp only [go_sem, hst', List.length_append, List.length_cons, List.length_nil, Nat.zero_add]
   ·simp only [go_sem, ltB]
    exact fun r hr => (rowsL_row r hr).2 _
  ·have hst' : wAllS s (l.take (k + 1)) = (ws ++ [l.getD k default], put) := by
    rw [hst, wStepS]; simp only [hp, Bool.false_eq_true, if_false]
   refine V_sound ?_
   simp only [go_sem, smp_row, rowsL_len, List.length_append, List.length_cons, List.length_nil, Nat.zero_add, hlx]
   refine ⟨by omega, by omega, V_sound ?_⟩
   simp only [go_sem, e3]
   refine ⟨(k + 1, v + 1, false), h1, by simp only []; omega, [.rows 63 2 0 [[.c (.v (.int .i64 (l.getD k default).t)), .c (.v (.int .i64 (l.getD k default).v))]] true], ?_, Nat.zero_le _, ?_, ?_⟩
   ·simp only [hst', go_sem, smp_row]
   ·simp only [go_sem, hst', List.length_append, List.length_cons, List.length_nil, Nat.zero_add]
   ·simp only [go_sem, ltB]
    exact fun r hr => (rowsL_row r hr).2 _
 ·have hkl : k = l.length := by omega
  subst hkl
  rw [List.take_length] at hwl ⊢
  unfold withS
  generalize hw : wAllS s l = W at hwl ⊢
  obtain ⟨ws, put⟩ := W
  simp only at hwl
  have hend : ∀ (ws : List Smp) (e : Nat → SV) (X : List Blk) (v : Nat) (f : Bool), e 4 = .p (.one (.arr 2 1 v 0 ws.length)) → X[1]? = some (.rows 63 2 v (rowsL 2 Smp.c ws) f) → FinK 45 0 [.t 4] (.p (smpL ws)) [] .ret ⟨e, X⟩ := by
   intro ws e X v f h4 hX
   refine finQ (.inr rfl) (gh_freeze (b := 1) (l := rowsL 2 Smp.c ws) hX (rowsL_closed ws)) (qs := [.one (.c (.imm 2 ws.length fun i j => toC (((rowsL 2 Smp.c ws).getD (0 + i) []).getD j default)))]) (cnd := True) ?_ trivial (subS_p (subP_one (frz_sub ws))) (by simp only [go_sem])
   simp only [go_sem, h4, Nat.zero_add]
  refine run_seqV ?_
  simp only [go_sem, rowsL_len]
  refine ⟨fun hp => ⟨by omega, ?_⟩, fun hp => ?_⟩
  ·have hput : put = false := by simpa using hp
   rw [hput]
   refine V_sound ?_
   have hl2 : ws.length + 1 = (ws ++ [s]).length := by simp
   simp only [go_sem, smp_row, hl2]
   exact hend (ws ++ [s]) _ _ _ _ (by simp only [go_sem]) rfl
  ·have hput : put = true := by simpa using hp
   rw [hput]
   refine V_sound ?_
   simp only [go_sem]
   exact hend ws _ _ _ _ (by simp only [go_sem]) rfl
def rputS (l : List Smp) (s : Smp) : List Smp × Int :=
 if smOk s = false then (l, 1) else if (rgetS l s.t).2 = true ∧ (rgetS l s.t).1.v = s.v then (l, 7) else if (rgetS l s.t).2 = true then (l, 8) else if l.length = 64 then (l, 6) else (withS l s, 0)
set_option maxRecDepth 20000 in
theorem rPut_rc (l : List Smp) (hl : l.length ≤ 1000) (s : Smp) (M : List Blk) : CallR Tryz.prog M n_windroseref12_Put [smpL l, smpA s] (.tup [smpL (rputS l s).1, .i (rputS l s).2]) M := by
 refine callP F_windroseref12_Put (Nat.le_of_ble_eq_true rfl) (by simp only [go_sem]) (by simp only [go_sem]) ?_ M
 simp only [c_windroseref12_Put, go_sem]
 refine callL (rMay_rc [s] (Nat.le_of_ble_eq_true rfl) []) ⟨snapL [s] rfl, trivial⟩ (by simp only [go_sem]) ?_
 simp only [go_sem, smsOk_one]
 unfold rputS
 cases hs : smOk s with
 | false => simp only [go_sem]
 | true =>
  simp only [go_sem]
  refine call0 (rGet_rc l (by omega) s.t) ?_
  simp only [go_sem]
  generalize rgetS l s.t = G
  obtain ⟨g, there⟩ := G
  cases there with
  | false =>
   simp only [go_sem]
   refine ⟨fun h => ?_, fun h => ?_⟩
   ·have : l.length = 64 := by omega
    simp only [this, go_sem]
   ·have : ¬ l.length = 64 := fun e => h (by rw [e]; rfl)
    simp only [if_neg this, go_sem]
    refine call0 (rwith_rc l hl s) ?_
    simp only [go_sem]
  | true =>
   simp only [go_sem]
   refine ⟨fun h => ?_, fun h => ?_⟩
   ·simp only [h, go_sem]
   ·simp only [h, go_sem]
def rrangeS (l : List Smp) (a b : Int) : List Smp := l.filter fun x => decide (a ≤ x.t) && decide (x.t < b)
def rtrimS (l : List Smp) (a : Int) : List Smp := l.filter fun x => decide (a ≤ x.t)
theorem filter_take {α : Type} [Inhabited α] (p : α → Bool) (l : List α) {k : Nat} (hk : k < l.length) : (l.take (k + 1)).filter p = (l.take k).filter p ++ if p (l.getD k default) = true then [l.getD k default] else [] := by
 rw [take_succ_getD default hk, List.filter_append, List.filter_cons, List.filter_nil]
theorem filter_len {α : Type} (p : α → Bool) (l : List α) (k : Nat) : ((l.take k).filter p).length ≤ k := Nat.le_trans (List.length_filter_le ..) (by rw [List.length_take]; omega)
theorem end_smp {n : Nat} (ws : List Smp) (e : Nat → SV) (X : List Blk) (v : Nat) (f : Bool) (r b : Nat) (h4 : e r = .p (.one (.arr 2 b v 0 ws.length))) (hX : X[b]? = some (.rows 63 2 v (rowsL 2 Smp.c ws) f)) : FinK n 0 [.t r] (.p (smpL ws)) [] .ret ⟨e, X⟩ := by
 refine finQ (.inr rfl) (gh_freeze (b := b) (l := rowsL 2 Smp.c ws) hX (rowsL_closed ws)) (qs := [.one (.c (.imm 2 ws.length fun i j => toC (((rowsL 2 Smp.c ws).getD (0 + i) []).getD j default)))]) (cnd := True) ?_ trivial (subS_p (subP_one (frz_sub ws))) (by simp only [go_sem])
 simp only [go_sem, h4, Nat.zero_add]
set_option maxRecDepth 20000 in
theorem rTrim_rc (l : List Smp) (hl : l.length ≤ 140737488355) (a : Int) (M : List Blk) : CallR Tryz.prog M n_windroseref12_Trim [smpL l, .i a] (.p (smpL (rtrimS l a))) M := by
 refine callPG F_windroseref12_Trim (Nat.le_of_ble_eq_true rfl) (by simp only [go_sem]) ?_ M
 refine run_seqV ?_
 simp only [go_sem]
 refine run_seqV ?_
 simp only [go_sem]
 refine run_seqV ?_
 simp only [go_sem]
 refine R_loop (ι := Nat × Nat × Bool) (J := fun p => p.1 ≤ l.length)
  (env := fun p => [(0, .p (smpL l)), (1, .i a), (5, .p (.one (.arr 2 0 p.2.1 0 (rtrimS (l.take p.1) a).length))), (6, .i p.1)])
  (mem := fun p => [.rows 63 2 p.2.1 (rowsL 2 Smp.c (rtrimS (l.take p.1) a)) p.2.2])
  (μ := fun p => l.length - p.1) (0, 0, true) (Nat.zero_le _) ⟨[], ?_, Nat.zero_le _, ?_, ?_⟩ ?_
 ·simp only [go_sem, List.take_zero, rtrimS, List.filter_nil, rowsL_nil]
 ·simp only [go_sem, List.take_zero, rtrimS, List.filter_nil, List.length_nil]
 ·simp only [go_sem, ltB]
  exact fun r hr => (rowsL_row r hr).2 _
 rintro ⟨k, v, f⟩ hk
 simp only at hk
 refine run_seqV ?_
 simp only [go_sem]
 refine ⟨fun h1 => ?_, fun h1 => ?_⟩
 ·have hst := filter_take (fun x : Smp => decide (a ≤ x.t)) l h1
  have hle := filter_len (fun x : Smp => decide (a ≤ x.t)) l k
  have e3 : IntKind.i64.wrap ((k : Int) + 1) = ((k + 1 : Nat) : Int) := w64s (by omega)
  rw [show (l.take (k + 1)).filter (fun x : Smp => decide (a ≤ x.t)) = rtrimS (l.take (k + 1)) a from rfl, show (l.take k).filter (fun x : Smp => decide (a ≤ x.t)) = rtrimS (l.take k) a from rfl] at hst
  rw [show (l.take k).filter (fun x : Smp => decide (a ≤ x.t)) = rtrimS (l.take k) a from rfl] at hle
  generalize hw : rtrimS (l.take k) a = ws at hst hle ⊢
  refine V_sound ?_
  have hlx : ∀ x : Smp, (⟨x.t, x.v⟩ : Smp) = x := fun _ => rfl
  simp only [go_sem, smp_row, rowsL_len, e3, hlx]
  refine ⟨by omega, fun hc => ⟨by omega, by omega, ?_⟩, fun hc => ?_⟩
  ·have hst' : rtrimS (l.take (k + 1)) a = ws ++ [l.getD k default] := by
    rw [hst, if_pos (by simpa using hc)]
   refine ⟨(k + 1, v + 1, false), h1, by simp only []; omega, [.rows 63 2 0 [[.c (.v (.int .i64 (l.getD k default).t)), .c (.v (.int .i64 (l.getD k default).v))]] true], ?_, Nat.zero_le _, ?_, ?_⟩
   ·simp only [hst', go_sem]
   ·simp only [go_sem, hst', List.length_append, List.length_cons, List.length_nil, Nat.zero_add]
   ·simp only [go_sem, ltB]
    exact fun r hr => (rowsL_row r hr).2 _
  ·have hst' : rtrimS (l.take (k + 1)) a = ws := by
    rw [hst, if_neg (by simpa using hc), List.append_nil]
   refine ⟨(k + 1, v, f), h1, by simp only []; omega, [], ?_, Nat.zero_le _, ?_, ?_⟩
   ·simp only [hst', go_sem]
   ·simp only [go_sem, hst']
   ·simp only [go_sem, ltB]
    exact fun r hr => (rowsL_row r hr).2 _
 ·have hkl : k = l.length := by omega
  subst hkl
  rw [List.take_length]
  refine V_sound ?_
  simp only [go_sem]
  exact end_smp (rtrimS l a) _ _ v f 4 0 (by simp only [go_sem]) rfl
set_option maxRecDepth 20000 in
theorem rRange_rc (l : List Smp) (hl : l.length ≤ 140737488355) (a b : Int) (M : List Blk) : CallR Tryz.prog M n_windroseref12_Range [smpL l, .i a, .i b] (.p (smpL (rrangeS l a b))) M := by
 refine callPG F_windroseref12_Range (Nat.le_of_ble_eq_true rfl) (by simp only [go_sem]) ?_ M
 refine run_seqV ?_
 simp only [go_sem]
 refine run_seqV ?_
 simp only [go_sem]
 refine run_seqV ?_
 simp only [go_sem]
 refine R_loop (ι := Nat × Nat × Bool) (J := fun p => p.1 ≤ l.length)
  (env := fun p => [(0, .p (smpL l)), (1, .i a), (2, .i b), (7, .p (.one (.arr 2 0 p.2.1 0 (rrangeS (l.take p.1) a b).length))), (8, .i p.1)])
  (mem := fun p => [.rows 63 2 p.2.1 (rowsL 2 Smp.c (rrangeS (l.take p.1) a b)) p.2.2])
  (μ := fun p => l.length - p.1) (0, 0, true) (Nat.zero_le _) ⟨[], ?_, Nat.zero_le _, ?_, ?_⟩ ?_
 ·simp only [go_sem, List.take_zero, rrangeS, List.filter_nil, rowsL_nil]
 ·simp only [go_sem, List.take_zero, rrangeS, List.filter_nil, List.length_nil]
 ·simp only [go_sem, ltB]
  exact fun r hr => (rowsL_row r hr).2 _
 rintro ⟨k, v, f⟩ hk
 simp only at hk
 refine run_seqV ?_
 simp only [go_sem]
 refine ⟨fun h1 => ?_, fun h1 => ?_⟩
 ·have hst := filter_take (fun x : Smp => decide (a ≤ x.t) && decide (x.t < b)) l h1
  have hle := filter_len (fun x : Smp => decide (a ≤ x.t) && decide (x.t < b)) l k
  have e3 : IntKind.i64.wrap ((k : Int) + 1) = ((k + 1 : Nat) : Int) := w64s (by omega)
  rw [show (l.take (k + 1)).filter (fun x : Smp => decide (a ≤ x.t) && decide (x.t < b)) = rrangeS (l.take (k + 1)) a b from rfl, show (l.take k).filter (fun x : Smp => decide (a ≤ x.t) && decide (x.t < b)) = rrangeS (l.take k) a b from rfl] at hst
  rw [show (l.take k).filter (fun x : Smp => decide (a ≤ x.t) && decide (x.t < b)) = rrangeS (l.take k) a b from rfl] at hle
  generalize hw : rrangeS (l.take k) a b = ws at hst hle ⊢
  refine V_sound ?_
  have hlx : ∀ x : Smp, (⟨x.t, x.v⟩ : Smp) = x := fun _ => rfl
  simp only [go_sem, smp_row, rowsL_len, e3, hlx]
  refine ⟨by omega, fun _ => by omega, fun hc => ⟨by omega, by omega, ?_⟩, fun hc => ?_⟩
  ·have hst' : rrangeS (l.take (k + 1)) a b = ws ++ [l.getD k default] := by
    rw [hst, if_pos (by simpa using hc)]
   refine ⟨(k + 1, v + 1, false), h1, by simp only []; omega, [.rows 63 2 0 [[.c (.v (.int .i64 (l.getD k default).t)), .c (.v (.int .i64 (l.getD k default).v))]] true], ?_, Nat.zero_le _, ?_, ?_⟩
   ·simp only [hst', go_sem]
   ·simp only [go_sem, hst', List.length_append, List.length_cons, List.length_nil, Nat.zero_add]
   ·simp only [go_sem, ltB]
    exact fun r hr => (rowsL_row r hr).2 _
  ·have hst' : rrangeS (l.take (k + 1)) a b = ws := by
    rw [hst, if_neg (by simpa using hc), List.append_nil]
   refine ⟨(k + 1, v, f), h1, by simp only []; omega, [], ?_, Nat.zero_le _, ?_, ?_⟩
   ·simp only [hst', go_sem]
   ·simp only [go_sem, hst']
   ·simp only [go_sem, ltB]
    exact fun r hr => (rowsL_row r hr).2 _
 ·have hkl : k = l.length := by omega
  subst hkl
  rw [List.take_length]
  refine V_sound ?_
  simp only [go_sem]
  exact end_smp (rrangeS l a b) _ _ v f 6 0 (by simp only [go_sem]) rfl
end Go.Proofs.YtpdcpdngckpgbaaGreat.A
end
section
namespace Go.Proofs.YtpdcpdngckpgbaaGreat.A
open Go Go.Proofs.YtpdcpdngckpgbaaGreatAbs
theorem sm_parts {l : List Smp} (h : smsOk l = true) {i : Nat} (hi : i < l.length) : (0 ≤ (l.getD i default).t ∧ (l.getD i default).t ≤ 1099511627776 ∧ -1099511627776 ≤ (l.getD i default).v ∧ (l.getD i default).v ≤ 1099511627776) ∧ (0 < i → (l.getD (i - 1) default).t < (l.getD i default).t) := by
 unfold smsOk at h
 have h2 := List.all_eq_true.1 (Bool.and_eq_true_iff.1 h).2 i (List.mem_range.2 hi)
 unfold smAt smOk at h2
 simp only [Bool.and_eq_true, Bool.or_eq_true, decide_eq_true_eq, beq_iff_eq] at h2
 refine ⟨by omega, fun h0 => ?_⟩
 rcases h2.2 with e | e
 ·omega
 ·exact e
theorem sm_rise {l : List Smp} (h : smsOk l = true) {i : Nat} : ∀ {j : Nat}, i < j → j < l.length → (l.getD i default).t < (l.getD j default).t
 | 0, hij, hj => by omega
 | j + 1, hij, hj => by
  have h1 := (sm_parts h hj).2 (by omega)
  rw [Nat.add_sub_cancel] at h1
  by_cases e : i = j
  ·subst e; exact h1
  ·exact Int.lt_trans (sm_rise h (show i < j by omega) (by omega)) h1
def vN (l : List Smp) (k : Nat) : Int := (l.getD k default).v
def sumN (l : List Smp) : Nat → Int
 | 0 => 0
 | k + 1 => sumN l k + vN l k
def leastN (l : List Smp) : Nat → Int
 | 0 => 0
 | k + 1 => if k = 0 then vN l k else if vN l k < leastN l k then vN l k else leastN l k
def mostN (l : List Smp) : Nat → Int
 | 0 => 0
 | k + 1 => if k = 0 then vN l k else if mostN l k < vN l k then vN l k else mostN l k
def grownN (l : List Smp) : Nat → Int
 | 0 => 0
 | k + 1 => if k = 0 then 0 else if vN l (k - 1) ≤ vN l k then grownN l k + vN l k - vN l (k - 1) else if 0 < vN l k then grownN l k + vN l k else grownN l k
theorem v_bound {l : List Smp} (h : smsOk l = true) {k : Nat} (hk : k < l.length) : -1099511627776 ≤ vN l k ∧ vN l k ≤ 1099511627776 := by
 have := (sm_parts h hk).1; unfold vN; omega
theorem sum_bound {l : List Smp} (h : smsOk l = true) : ∀ {k : Nat}, k ≤ l.length → -(1099511627776 * (k : Int)) ≤ sumN l k ∧ sumN l k ≤ 1099511627776 * (k : Int)
 | 0, hk => by simp [sumN]
 | k + 1, hk => by
  have := v_bound h (show k < l.length by omega)
  have := sum_bound h (show k ≤ l.length by omega)
  rw [sumN]; omega
theorem least_bound {l : List Smp} (h : smsOk l = true) : ∀ {k : Nat}, k ≤ l.length → -1099511627776 ≤ leastN l k ∧ leastN l k ≤ 1099511627776
 | 0, hk => by simp [leastN]
 | k + 1, hk => by
  have := v_bound h (show k < l.length by omega)
  have := least_bound h (show k ≤ l.length by omega)
  rw [leastN]; split <;> (try split) <;> omega
theorem most_bound {l : List Smp} (h : smsOk l = true) : ∀ {k : Nat}, k ≤ l.length → -1099511627776 ≤ mostN l k ∧ mostN l k ≤ 1099511627776
 | 0, hk => by simp [mostN]
 | k + 1, hk => by
  have := v_bound h (show k < l.length by omega)
  have := most_bound h (show k ≤ l.length by omega)
  rw [mostN]; split <;> (try split) <;> omega
theorem grown_bound {l : List Smp} (h : smsOk l = true) : ∀ {k : Nat}, k ≤ l.length → 0 ≤ grownN l k ∧ grownN l k ≤ 2199023255552 * (k : Int)
 | 0, hk => by simp [grownN]
 | k + 1, hk => by
  have := v_bound h (show k < l.length by omega)
  have := grown_bound h (show k ≤ l.length by omega)
  rw [grownN]
  split
  ·omega
  ·have := v_bound h (show k - 1 < l.length by omega)
   split
   ·omega
   ·split <;> omega
def totS (kind : Int) (l : List Smp) : Int × Bool :=
 if smsOk l = false ∨ kind < 1 ∨ 5 < kind then (0, false) else if kind = 1 then (sumN l l.length, true) else if kind = 4 then (l.length, true) else if kind = 2 then (leastN l l.length, decide (0 < l.length)) else if kind = 3 then (mostN l l.length, decide (0 < l.length))
 else if l.length < 2 then (0, false) else ((grownN l l.length * 60).tdiv ((l.getD (l.length - 1) default).t - (l.getD 0 default).t), true)
def fldS (kind a b : Int) : Int × Bool := if kind = 1 ∨ kind = 4 then (a + b, true) else if kind = 2 then (if b < a then b else a, true) else if kind = 3 then (if a < b then b else a, true) else (0, false)
set_option maxRecDepth 20000 in
theorem Fold_rc (kind a b : Int) (ha : -9007199254740992 ≤ a ∧ a ≤ 9007199254740992) (hb : -9007199254740992 ≤ b ∧ b ≤ 9007199254740992) (M : List Blk) : CallR Tryz.prog M n_total_Fold [.i kind, .i a, .i b] (.tup [.i (fldS kind a b).1, .b (fldS kind a b).2]) M := by
 refine callP F_total_Fold (Nat.le_of_ble_eq_true rfl) (by simp only [go_sem]) (by simp only [go_sem]) ?_ M
 simp only [c_total_Fold, go_sem]
 have h1 : ((if b < a then b else a) < -9007199254740992) = False := by simp only [eq_iff_iff, iff_false]; split <;> omega
 have h2 : (9007199254740992 < (if a < b then b else a)) = False := by simp only [eq_iff_iff, iff_false]; split <;> omega
 have e : IntKind.i64.wrap (a + b) = a + b := w64 (by omega) (by omega)
 simp only [h1, h2, e, decide_false, go_sem, fldS]
 grind
set_option maxRecDepth 20000 in
theorem rate_rc (l : List Smp) (hk : smsOk l = true) (M : List Blk) : CallR Tryz.prog M n_total_rate [smpL l] (if l.length < 2 then .tup [.i 0, .b false] else .tup [.i ((grownN l l.length * 60).tdiv ((l.getD (l.length - 1) default).t - (l.getD 0 default).t)), .b true]) M := by
 refine callP F_total_rate (Nat.le_of_ble_eq_true rfl) (by simp only [go_sem]) (by split <;> simp only [go_sem]) ?_ M
 have h64 := smsOk_len hk
 simp only [c_total_rate, go_sem]
 refine ⟨fun hc => ?_, fun hc => ?_⟩
 ·rw [if_pos (by omega)]; simp only [go_sem]
 rw [if_neg (by omega)]
 refine V_loop (ι := Nat) (J := fun k => 1 ≤ k ∧ k ≤ l.length) (env := fun k => [(0, .p (smpL l)), (4, .i (grownN l k)), (5, .i k)]) (mem := fun _ => []) (μ := fun k => l.length - k) 1 ⟨Nat.le_refl _, by omega⟩ (into0 (by simp only [go_sem, grownN])) ?_
 rintro k ⟨hk1, hkl⟩
 have e1 : IntKind.i64.wrap ((k : Int) - 1) = ((k - 1 : Nat) : Int) := w64p (by omega) (by omega)
 have e2 : IntKind.i64.wrap ((k : Int) + 1) = ((k + 1 : Nat) : Int) := w64s (by omega)
 have e5 : IntKind.i64.wrap ((l.length : Int) - 1) = ((l.length - 1 : Nat) : Int) := w64p (by omega) (by omega)
 have b0 := grown_bound hk hkl
 simp only [go_sem, e1, e2, e5]
 have bl := sm_parts hk (show l.length - 1 < l.length by omega)
 have bf := sm_parts hk (show 0 < l.length by omega)
 have br := sm_rise hk (show 0 < l.length - 1 by omega) (by omega)
 have e6 : IntKind.i64.wrap ((l.getD (l.length - 1) default).t - (l.getD 0 default).t) = (l.getD (l.length - 1) default).t - (l.getD 0 default).t := w64 (by omega) (by omega)
 refine ⟨fun h1 => ?_, fun h1 => ⟨by omega, by omega, by rw [e6]; omega, ?_⟩⟩
 ·have bv := v_bound hk h1
  have bp := v_bound hk (show k - 1 < l.length by omega)
  have e3 : IntKind.i64.wrap ((l.getD k default).v - (l.getD (k - 1) default).v) = vN l k - vN l (k - 1) := w64 (by unfold vN at *; omega) (by unfold vN at *; omega)
  rw [e3]
  refine ⟨by omega, by omega, fun hc => ⟨k + 1, by omega, by omega, into0 ?_⟩, fun hc => ⟨by omega, k + 1, by omega, by omega, into0 ?_⟩⟩
  ·have hg : grownN l (k + 1) = IntKind.i64.wrap (grownN l k + (vN l k - vN l (k - 1))) := by
    rw [w64 (by omega) (by omega), grownN, if_neg (by omega), if_pos (by omega)]; omega
   simp only [go_sem, hg]
  ·have hm : (if (0 : Int) < (l.getD k default).v then (l.getD k default).v else 0) = if 0 < vN l k then vN l k else 0 := rfl
   have hg : grownN l (k + 1) = IntKind.i64.wrap (grownN l k + (if 0 < vN l k then vN l k else 0)) := by
    rw [w64 (by split <;> omega) (by split <;> omega), grownN, if_neg (by omega), if_neg (by omega)]
    split <;> omega
   simp only [go_sem, hg, hm]
 ·have hkl' : k = l.length := by omega
  subst hkl'
  rw [e6]
  have hg : IntKind.i64.wrap (grownN l l.length * 60) = grownN l l.length * 60 := w64 (by omega) (by omega)
  rw [hg, w64]
  ·have := Int.tdiv_nonneg (a := grownN l l.length * 60) (b := (l.getD (l.length - 1) default).t - (l.getD 0 default).t) (by omega) (by omega)
   omega
  ·have := Int.tdiv_le_self (b := (l.getD (l.length - 1) default).t - (l.getD 0 default).t) (a := grownN l l.length * 60) (by omega)
   omega
def accN (kind : Int) (l : List Smp) (k : Nat) : Int := if kind = 1 then sumN l k else if kind = 2 then leastN l k else mostN l k
theorem acc_bound {l : List Smp} (h : smsOk l = true) (kind : Int) {k : Nat} (hk : k ≤ l.length) : -70368744177664 ≤ accN kind l k ∧ accN kind l k ≤ 70368744177664 := by
 have h64 := smsOk_len h
 have a := sum_bound h hk
 have b := least_bound h hk
 have c := most_bound h hk
 unfold accN
 split
 ·omega
 ·split <;> omega
set_option maxRecDepth 20000 in
theorem Of_rc (kind : Int) (l : List Smp) (hl : l.length ≤ 140737488355328) (M : List Blk) : CallR Tryz.prog M n_total_Of [.i kind, smpL l] (.tup [.i (totS kind l).1, .b (totS kind l).2]) M := by
 refine callP F_total_Of (Nat.le_of_ble_eq_true rfl) (by simp only [go_sem]) (by simp only [go_sem]) ?_ M
 simp only [c_total_Of, go_sem]
 refine call0 (bCheck_rc l hl) ?_
 simp only [go_sem]
 cases hk : smsOk l with
 | false => simp only [totS, hk, go_sem]
 | true =>
  have h64 := smsOk_len hk
  simp only [go_sem]
  refine ⟨fun hc => ?_, fun hc => ?_⟩
  ·simp only [Bool.or_eq_true, decide_eq_true_eq] at hc
   rw [totS, if_pos (.inr (by omega))]
   simp only [go_sem]
  simp only [Bool.or_eq_false_iff, decide_eq_false_iff_not] at hc
  have hts : totS kind l = if kind = 1 then (sumN l l.length, true) else if kind = 4 then (l.length, true) else if kind = 2 then (leastN l l.length, decide (0 < l.length)) else if kind = 3 then (mostN l l.length, decide (0 < l.length)) else if l.length < 2 then (0, false) else ((grownN l l.length * 60).tdiv ((l.getD (l.length - 1) default).t - (l.getD 0 default).t), true) := by
   rw [totS, if_neg (by rw [hk]; simp; omega)]
  rw [hts]
  refine ⟨fun h4 => ?_, fun h4 => ⟨fun h5 => ?_, fun h5 => ?_⟩⟩
  ·rw [if_neg (by omega), if_pos h4]
   simp only [go_sem]
  ·rw [if_neg (by omega), if_neg h4, if_neg (by omega), if_neg (by omega)]
   refine call0 (rate_rc l hk) ?_
   split <;> simp only [go_sem]
  rw [if_neg h4]
  refine V_loop (ι := Nat) (J := fun k => k ≤ l.length) (env := fun k => [(0, .i kind), (1, .p (smpL l)), (6, .i (accN kind l k)), (31, .p (smpL l)), (32, .i l.length), (33, .i k)]) (mem := fun _ => []) (μ := fun k => l.length - k) 0 (Nat.zero_le _) (into0 (by
   have : accN kind l 0 = 0 := by unfold accN sumN leastN mostN; split <;> (try split) <;> rfl
   simp only [go_sem, this])) ?_
  rintro k hkl
  have e2 : IntKind.i64.wrap ((k : Int) + 1) = ((k + 1 : Nat) : Int) := w64s (by omega)
  have ab := acc_bound hk kind hkl
  simp only [go_sem, e2]
  refine ⟨fun h1 => ⟨by omega, fun h0 => ⟨k + 1, h1, by omega, into0 ?_⟩, fun h0 => ?_⟩, fun h1 => ?_⟩
  ·have h0' : k = 0 := by omega
   subst h0'
   have hv : accN kind l (0 + 1) = (l.getD 0 default).v := by
    unfold accN
    simp only [sumN, leastN, mostN, if_true, Int.zero_add]
    split <;> (try split) <;> rfl
   simp only [go_sem, hv]
  ·have bv := v_bound hk h1
   have h0' : ¬ k = 0 := fun e => h0 (by rw [e]; rfl)
   refine call0 (Fold_rc kind (accN kind l k) (l.getD k default).v (by omega) (by unfold vN at bv; omega)) ?_
   have hf : (fldS kind (accN kind l k) (l.getD k default).v).1 = accN kind l (k + 1) := by
    unfold fldS accN
    by_cases k1 : kind = 1
    ·subst k1; simp only [true_or, if_true, sumN]; rfl
    ·rw [if_neg (by omega), if_neg k1, if_neg k1]
     by_cases k2 : kind = 2
     ·rw [if_pos k2, if_pos k2, if_pos k2, leastN, if_neg h0']; rfl
     ·rw [if_neg k2, if_neg k2, if_neg k2, if_pos (by omega), mostN, if_neg h0']; rfl
   simp only [go_sem, hf]
   exact ⟨k + 1, h1, by omega, into0 (by simp only [go_sem, e2])⟩
  ·have hkl' : k = l.length := by omega
   subst hkl'
   unfold accN
   by_cases k1 : kind = 1
   ·subst k1; simp only [if_true, beq_self_eq_true, Bool.true_or, and_self]
   ·have e1 : (kind == 1) = false := by simpa using k1
    rw [if_neg k1, if_neg k1, e1, Bool.false_or]
    by_cases k2 : kind = 2
    ·rw [if_pos k2, if_pos k2]
     exact ⟨rfl, by simp⟩
    ·rw [if_neg k2, if_neg k2, if_pos (by omega)]
     exact ⟨rfl, by simp⟩
set_option maxRecDepth 100000 in
theorem rOf_rc (kind : Int) (l : List Smp) (hl : l.length ≤ 140737488355328) (M : List Blk) : CallR Tryz.prog M n_windroseref13_Of [.i kind, smpL l] (.tup [.i (totS kind l).1, .b (totS kind l).2]) M := by
 refine callP F_windroseref13_Of (Nat.le_of_ble_eq_true rfl) (by simp only [go_sem]) (by simp only [go_sem]) ?_ M
 simp only [c_windroseref13_Of, go_sem]
 refine call0 (rMay_rc l hl) ?_
 simp only [go_sem]
 cases hk : smsOk l with
 | false => simp only [totS, hk, go_sem]
 | true =>
  have h64 := smsOk_len hk
  simp only [go_sem]
  refine ⟨fun hc => ?_, fun hc => ?_⟩
  ·simp only [Bool.or_eq_true, decide_eq_true_eq] at hc
   rw [totS, if_pos (.inr (by omega))]
   simp only [go_sem]
  simp only [Bool.or_eq_false_iff, decide_eq_false_iff_not] at hc
  have hts : totS kind l = if kind = 1 then (sumN l l.length, true) else if kind = 4 then (l.length, true) else if kind = 2 then (leastN l l.length, decide (0 < l.length)) else if kind = 3 then (mostN l l.length, decide (0 < l.length)) else if l.length < 2 then (0, false) else ((grownN l l.length * 60).tdiv ((l.getD (l.length - 1) default).t - (l.getD 0 default).t), true) := by
   rw [totS, if_neg (by rw [hk]; simp; omega)]
  rw [hts]
  refine R_loop (ι := Nat) (J := fun k => k ≤ l.length) (env := fun k => [(0, .i kind), (1, .p (smpL l)), (6, .i l.length), (7, .i (sumN l k)), (8, .i (leastN l k)), (9, .i (mostN l k)), (10, .i (grownN l k)), (11, .i k)]) (mem := fun _ => []) (μ := fun k => l.length - k) 0 (Nat.zero_le _) (into0 (by simp only [go_sem, sumN, leastN, mostN, grownN])) ?_
  rintro k hkl
  refine run_seqV ?_
  simp only [go_sem]
  refine ⟨fun h1 => ?_, fun h1 => ?_⟩
  ·refine run_seq ?_
   refine run_block ?_
   refine run_seqV ?_
   simp only [go_sem]
   have bv := v_bound hk h1
   have e2 : IntKind.i64.wrap ((k : Int) + 1) = ((k + 1 : Nat) : Int) := w64s (by omega)
   have b1 := sum_bound hk hkl
   have b4 := grown_bound hk hkl
   have hv : (l.getD k default).v = vN l k := rfl
   have hsum : IntKind.i64.wrap (sumN l k + vN l k) = sumN l (k + 1) := by
    rw [sumN]; exact w64 (by omega) (by omega)
   have hz : ((k : Int) == 0) = (k == 0) := by
    rw [Bool.eq_iff_iff]; simp
   refine ⟨by omega, run_seqV ?_⟩
   simp only [go_sem, hv, hsum]
   refine run_join [(0, .i kind), (1, .p (smpL l)), (6, .i l.length), (7, .i (sumN l (k + 1))), (8, .i (leastN l (k + 1))), (9, .i (mostN l k)), (10, .i (grownN l k)), (11, .i k), (12, .i (vN l k))] [] (V_sound ?_) ?_
   ·simp only [go_sem, hz]
    refine ⟨fun hc => into0 ?_, fun hc => into0 ?_⟩
    ·have : leastN l (k + 1) = vN l k := by
      simp only [Bool.or_eq_true, decide_eq_true_eq, beq_iff_eq] at hc
      rw [leastN]; split
      ·rfl
      ·rw [if_pos (by omega)]
     simp only [go_sem, this]
    ·have : leastN l (k + 1) = leastN l k := by
      simp only [Bool.or_eq_false_iff, decide_eq_false_iff_not, beq_eq_false_iff_ne, ne_eq] at hc
      rw [leastN, if_neg hc.1, if_neg hc.2]
     simp only [go_sem, this]
   refine run_join [(0, .i kind), (1, .p (smpL l)), (6, .i l.length), (7, .i (sumN l (k + 1))), (8, .i (leastN l (k + 1))), (9, .i (mostN l (k + 1))), (10, .i (grownN l k)), (11, .i k), (12, .i (vN l k))] [] (V_sound ?_) ?_
   ·simp only [go_sem, hz]
    refine ⟨fun hc => into0 ?_, fun hc => into0 ?_⟩
    ·have : mostN l (k + 1) = vN l k := by
      simp only [Bool.or_eq_true, decide_eq_true_eq, beq_iff_eq] at hc
      rw [mostN]; split
      ·rfl
      ·rw [if_pos (by omega)]
     simp only [go_sem, this]
    ·have : mostN l (k + 1) = mostN l k := by
      simp only [Bool.or_eq_false_iff, decide_eq_false_iff_not, beq_eq_false_iff_ne, ne_eq] at hc
      rw [mostN, if_neg hc.1, if_neg hc.2]
     simp only [go_sem, this]
   refine V_sound ?_
   simp only [go_sem]
   by_cases h0 : k = 0
   ·subst h0
    have hd : decide ((0 : Int) < ((0 : Nat) : Int)) = false := rfl
    have hg : grownN l (0 + 1) = grownN l 0 := by rw [grownN]; rfl
    simp only [hd, go_sem]
    refine V_sound ?_
    simp only [go_sem, e2]
    exact ⟨0 + 1, h1, by omega, into0 (by simp only [go_sem, hg]; rfl)⟩
   ·have ep : (0 < (k : Int)) = True := eq_true (by omega)
    have ep' : (0 < k) = True := eq_true (by omega)
    have e1 : IntKind.i64.wrap ((k : Int) - 1) = ((k - 1 : Nat) : Int) := w64p (by omega) (by omega)
    have bp := v_bound hk (show k - 1 < l.length by omega)
    have hv1 : (l.getD (k - 1) default).v = vN l (k - 1) := rfl
    simp only [ep, ep', e1, hv1, go_sem, decide_true]
    refine ⟨by omega, fun hc => ⟨by omega, V_sound ?_⟩, fun hc => ⟨fun hd => V_sound ?_, fun hd => V_sound ?_⟩⟩
    ·have hg : grownN l (k + 1) = IntKind.i64.wrap (IntKind.i64.wrap (grownN l k + vN l k) - vN l (k - 1)) := by
      rw [w64 (n := grownN l k + vN l k) (by omega) (by omega), w64 (by omega) (by omega), grownN, if_neg h0, if_pos hc]
     simp only [go_sem, e2]
     exact ⟨k + 1, h1, by omega, into0 (by simp only [go_sem, hg])⟩
    ·have hg : grownN l (k + 1) = IntKind.i64.wrap (grownN l k + vN l k) := by
      rw [w64 (by omega) (by omega), grownN, if_neg h0, if_neg hc, if_pos hd]
     simp only [go_sem, e2]
     exact ⟨k + 1, h1, by omega, into0 (by simp only [go_sem, hg])⟩
    ·have hg : grownN l (k + 1) = grownN l k := by
      rw [grownN, if_neg h0, if_neg hc, if_neg hd]
     simp only [go_sem, e2]
     exact ⟨k + 1, h1, by omega, into0 (by simp only [go_sem, hg])⟩
  ·have hkl' : k = l.length := by omega
   subst hkl'
   refine ⟨fun k1 => ?_, fun k1 => ⟨fun k4 => ?_, fun k4 => ⟨fun k2 => ?_, fun k2 => ⟨fun k3 => ?_, fun k3 => ⟨fun h2 => ?_, fun h2 => ?_⟩⟩⟩⟩⟩
   ·simp only [if_pos k1, go_sem]
   ·simp only [if_neg k1, if_pos k4, go_sem]
   ·simp only [if_neg k1, if_neg k4, if_pos k2, go_sem]
    simp
   ·simp only [if_neg k1, if_neg k4, if_neg k2, if_pos k3, go_sem]
    simp
   ·have h2' : l.length < 2 := by omega
    simp only [if_neg k1, if_neg k4, if_neg k2, if_neg k3, if_pos h2', go_sem]
   ·have h2' : ¬ l.length < 2 := by omega
    have bl := sm_parts hk (show l.length - 1 < l.length by omega)
    have bf := sm_parts hk (show 0 < l.length by omega)
    have br := sm_rise hk (show 0 < l.length - 1 by omega) (by omega)
    have b4 := grown_bound hk (Nat.le_refl l.length)
    have e6 : IntKind.i64.wrap ((l.getD (l.length - 1) default).t - (l.getD 0 default).t) = (l.getD (l.length - 1) default).t - (l.getD 0 default).t := w64 (by omega) (by omega)
    have e5 : IntKind.i64.wrap ((l.length : Int) - 1) = ((l.length - 1 : Nat) : Int) := w64p (by omega) (by omega)
    have hg : IntKind.i64.wrap (grownN l l.length * 60) = grownN l l.length * 60 := w64 (by omega) (by omega)
    simp only [if_neg k1, if_neg k4, if_neg k2, if_neg k3, if_neg h2', go_sem, e5, e6, hg]
    refine ⟨by omega, by omega, by omega, ?_⟩
    rw [w64]
    ·have := Int.tdiv_nonneg (a := grownN l l.length * 60) (b := (l.getD (l.length - 1) default).t - (l.getD 0 default).t) (by omega) (by omega)
     omega
    ·have := Int.tdiv_le_self (b := (l.getD (l.length - 1) default).t - (l.getD 0 default).t) (a := grownN l l.length * 60) (by omega)
     omega
end Go.Proofs.YtpdcpdngckpgbaaGreat.A
end
section
namespace Go.Proofs.YtpdcpdngckpgbaaGreat.A
open Go Go.Proofs.YtpdcpdngckpgbaaGreatAbs
structure Opn where
 kind : Int
 ser : ByteArray
 smp : Smp
 frm : Int
 to : Int
 tot : Int
instance : Inhabited Opn := ⟨⟨0, mkS [], ⟨0, 0⟩, 0, 0, 0⟩⟩
@[go_sem] def Opn.c (x : Opn) : Nat → CV
 | 0 => .v (.int .i64 x.kind)
 | 1 => .v (.string x.ser)
 | 2 => .v (.int .i64 x.smp.t)
 | 3 => .v (.int .i64 x.smp.v)
 | 4 => .v (.int .i64 x.frm)
 | 5 => .v (.int .i64 x.to)
 | _ => .v (.int .i64 x.tot)
abbrev opnA (x : Opn) : Pt := .agg [.c (.v (.int .i64 x.kind)), .c (.v (.string x.ser)), .c (.v (.int .i64 x.smp.t)), .c (.v (.int .i64 x.smp.v)), .c (.v (.int .i64 x.frm)), .c (.v (.int .i64 x.to)), .c (.v (.int .i64 x.tot))]
def serT (s : ByteArray) : Bool := match parS s with
 | some x => decide (prT x = s)
 | none => false
theorem serT_some {s : ByteArray} {x : Ser} (h : parS s = some x) : serT s = decide (prT x = s) := by rw [serT, h]
theorem serT_none {s : ByteArray} (h : parS s = none) : serT s = false := by rw [serT, h]
def zSer0 : Ser := ⟨mkS [], []⟩
theorem zSer0_z : zSer zSer0 := ⟨by unfold zS; exact Nat.zero_le _, Nat.zero_le _, fun i hi => absurd hi (Nat.not_lt_zero _)⟩
theorem series_rc (s : ByteArray) (hs : s.size ≤ 2000) (M : List Blk) : CallR Tryz.prog M n_shelf_series [.s s] (.b (serT s)) M := by
 refine callP F_shelf_series (Nat.le_of_ble_eq_true rfl) (by simp only [go_sem]) (by simp only [go_sem]) ?_ M
 simp only [c_shelf_series, go_sem]
 have hp := Parse_rc s (by omega)
 rw [parR] at hp
 cases hx : parS s with
 | none =>
  rw [hx] at hp
  refine call0 hp ?_
  simp only [go_sem]
  refine call0 (Print_rc zSer0 zSer0_z) ?_
  simp only [go_sem, serT_none hx]
 | some x =>
  rw [hx] at hp
  refine call0 hp ?_
  simp only [go_sem]
  refine call0 (Print_rc x (ok_zSer (parS_ok hx))) ?_
  simp only [go_sem, serT_some hx]
theorem rseriesB_rc (s : ByteArray) (hs : s.size ≤ 140737488355328) (M : List Blk) : CallR Tryz.prog M n_windroseref14_series [.s s] (.b (serT s)) M := by
 refine callP F_windroseref14_series (Nat.le_of_ble_eq_true rfl) (by simp only [go_sem]) (by simp only [go_sem]) ?_ M
 simp only [c_windroseref14_series, go_sem]
 have hr := rParseB_rc s hs
 rw [refR, ← parse_same] at hr
 cases hx : parS s with
 | none =>
  rw [hx] at hr
  refine call0 hr ?_
  simp only [go_sem]
  refine callg0 (r := .s (mkS [])) (fun h => Bool.noConfusion h) ?_
  simp only [go_sem, serT_none hx]
 | some x =>
  rw [hx] at hr
  refine call0 hr ?_
  simp only [go_sem]
  refine callg0 (fun _ => Text_rc x (parS_ok hx)) ?_
  rw [textR_prT (parS_ok hx)]
  simp only [go_sem, serT_some hx]
theorem in_rc (n lo hi : Int) (M : List Blk) : CallR Tryz.prog M n_shelf_in [.i n, .i lo, .i hi] (.b (decide (lo ≤ n) && decide (n ≤ hi))) M := by
 refine callP F_shelf_in (Nat.le_of_ble_eq_true rfl) (by simp only [go_sem]) (by simp only [go_sem]) ?_ M
 simp only [c_shelf_in, go_sem]
def opOk (o : Opn) : Bool :=
 if o.kind = 1 then serT o.ser && smOk o.smp && decide (o.frm = 0) && decide (o.to = 0) && decide (o.tot = 0)
 else if o.kind = 2 then decide (o.ser = mkS []) && decide (o.smp = zSmp) && decide (0 ≤ o.frm) && decide (o.frm ≤ 1099511627776) && decide (o.to = 0) && decide (o.tot = 0)
 else if o.kind = 3 then serT o.ser && decide (o.smp = zSmp) && decide (1 ≤ o.tot) && decide (o.tot ≤ 5)
 else if o.kind = 4 then serT o.ser && decide (o.smp = zSmp) && decide (o.to = 0) && decide (o.tot = 0)
 else false
theorem opn_ext {x y : Opn} : x = y ↔ x.kind = y.kind ∧ x.ser = y.ser ∧ x.smp.t = y.smp.t ∧ x.smp.v = y.smp.v ∧ x.frm = y.frm ∧ x.to = y.to ∧ x.tot = y.tot := by
 obtain ⟨a, b, ⟨c, d⟩, e, f, g⟩ := x
 obtain ⟨a', b', ⟨c', d'⟩, e', f', g'⟩ := y
 simp only [Opn.mk.injEq, Smp.mk.injEq]
 constructor
 ·rintro ⟨h1, h2, ⟨h3, h4⟩, h5, h6, h7⟩; exact ⟨h1, h2, h3, h4, h5, h6, h7⟩
 ·rintro ⟨h1, h2, h3, h4, h5, h6, h7⟩; exact ⟨h1, h2, ⟨h3, h4⟩, h5, h6, h7⟩
instance : DecidableEq Opn := fun a b => decidable_of_iff' _ opn_ext
theorem opn_beq (x y : Opn) : (x.kind == y.kind && (decide (x.ser = y.ser) && (x.smp.t == y.smp.t && (x.smp.v == y.smp.v && (x.frm == y.frm && (x.to == y.to && x.tot == y.tot)))))) = decide (x = y) := by
 rw [Bool.eq_iff_iff]
 simp only [Bool.and_eq_true, decide_eq_true_eq, beq_iff_eq, opn_ext]
def tailOp : C :=
 (.seq (.seq (.reg false [om 70 4, oo 71 (.un .not (.t 70)), om 72 71, og 73 72 false (.ld true 7 (.t 1)), og 74 72 false (.ld true 7 (.t 3)), og 75 72 false (.eqa [1, 2, 1, 1, 1, 1, 1] true (.t 73) (.t 74)), oo 76 (.pick (.t 72) (kb true) (.t 75))])
 (.cond (.t 76)
 (.seq (.reg false [oo 2 (.mv (ki 1))])
 .ret)
 .skip))
 (.seq (.reg false [oo 2 (.mv (ki 0))])
 .ret))
def opRow (x : Opn) : List AV := [.c (.v (.int .i64 x.kind)), .c (.v (.string x.ser)), .c (.v (.int .i64 x.smp.t)), .c (.v (.int .i64 x.smp.v)), .c (.v (.int .i64 x.frm)), .c (.v (.int .i64 x.to)), .c (.v (.int .i64 x.tot))]
set_option maxRecDepth 20000 in
theorem opTail (o b : Opn) (X : Bool) (e : Nat → SV) (D : List Blk) (R : Bool) (hR : R = (X && decide (o = b))) (h1 : e 1 = .p (.one (.ptr 0 0 0 0))) (h3 : e 3 = .p (.one (.ptr 1 0 0 0))) (h4 : e 4 = .b X) :
  Run Tryz.prog 77 0 tailOp ⟨e, .rows 65 7 0 [opRow o] true :: .rows 65 7 0 [opRow b] true :: D⟩ (FinK 77 0 [.t 2] (.i (if R then 0 else 1)) []) := by
 refine V_sound ?_
 simp only [tailOp, opRow, go_sem, h1, h3, h4, opn_beq]
 subst hR
 cases X with
 | false =>
  simp only [go_sem]
  exact fin0 (.inr rfl) rfl trivial (SubS.refl _) (by simp only [go_sem])
 | true =>
  simp only [go_sem]
  refine ⟨fun hc => ?_, fun hc => ?_⟩
  ·rw [if_neg (show ¬ o = b by simpa using hc)]
   exact fin0 (.inr rfl) rfl trivial (SubS.refl _) (by simp only [go_sem])
  ·rw [if_pos (show o = b by simpa using hc)]
   exact fin0 (.inr rfl) rfl trivial (SubS.refl _) (by simp only [go_sem])
set_option maxRecDepth 20000 in
theorem CheckOp_rc (o : Opn) (hs : o.ser.size ≤ 2000) (M : List Blk) : CallR Tryz.prog M n_shelf_CheckOp [opnA o] (.i (if opOk o then 0 else 1)) M := by
 refine callPG F_shelf_CheckOp (Nat.le_of_ble_eq_true rfl) (by simp only [go_sem]) ?_ M
 refine run_seqV ?_
 simp only [go_sem]
 refine run_seqV ?_
 simp only [go_sem]
 refine run_seqV ?_
 simp only [go_sem]
 refine callg0 (fun _ => series_rc o.ser hs) ?_
 simp only [go_sem]
 obtain ⟨kind, ser, smp, frm, to, tot⟩ := o
 simp only at hs ⊢
 have hsm : ∀ a b : Smp, a = b ↔ a.t = b.t ∧ a.v = b.v := fun a b => by cases a; cases b; simp
 by_cases k1 : kind = 1
 ·subst k1
  cases hser : serT ser with
  | false =>
   refine run_seqV ?_
   simp only [go_sem, hser]
   refine ⟨rfl, ops_end ?_⟩
   simp only [go_sem]
   refine ops_end ?_
   simp only [go_sem]
   refine opTail ⟨1, ser, smp, frm, to, tot⟩ ⟨1, ser, smp, 0, 0, 0⟩ false _ _ _ ?_ ?_ ?_ ?_
   ·simp only [opOk, hser, go_sem]
   all_goals simp only [go_sem]
  | true =>
   refine run_seqV ?_
   simp only [go_sem, hser]
   refine ⟨rfl, callLg (fun _ => bCheck_rc [smp] (Nat.le_of_ble_eq_true rfl) []) (fun _ => ⟨snapL [smp] rfl, trivial⟩) (by simp only [go_sem]) ?_⟩
   simp only [go_sem, smsOk_one]
   refine opTail ⟨1, ser, smp, frm, to, tot⟩ ⟨1, ser, smp, 0, 0, 0⟩ (smOk smp) _ _ _ ?_ ?_ ?_ ?_
   ·rw [Bool.eq_iff_iff]
    simp [opOk, hser, opn_ext]
    grind
   ·simp only [go_sem]
   ·simp only [go_sem]
   ·simp only [go_sem]
    cases smOk smp <;> rfl
 by_cases k2 : kind = 2
 ·subst k2
  refine run_seqV ?_
  simp only [go_sem]
  refine call0 (in_rc frm 0 1099511627776) ?_
  simp only [go_sem]
  refine opTail ⟨2, ser, smp, frm, to, tot⟩ ⟨2, mkS [], ⟨0, 0⟩, frm, 0, 0⟩ (decide (0 ≤ frm) && decide (frm ≤ 1099511627776)) _ _ _ ?_ ?_ ?_ ?_
  ·rw [Bool.eq_iff_iff]
   simp [opOk, opn_ext, hsm, zSmp]
   grind
  all_goals simp only [go_sem]
 have e2 : (kind == 2) = false := by simpa using k2
 by_cases k3 : kind = 3
 ·subst k3
  cases hser : serT ser with
  | false =>
   refine run_seqV ?_
   simp only [go_sem, hser]
   refine ⟨rfl, callg0 (fun _ => in_rc tot 1 5) ?_⟩
   simp only [go_sem]
   refine opTail ⟨3, ser, smp, frm, to, tot⟩ ⟨3, ser, ⟨0, 0⟩, frm, to, tot⟩ false _ _ _ ?_ ?_ ?_ ?_
   ·simp [opOk, hser]
   all_goals simp only [go_sem]
  | true =>
   refine run_seqV ?_
   simp only [go_sem, hser]
   refine ⟨rfl, callg0 (fun _ => in_rc tot 1 5) ?_⟩
   simp only [go_sem]
   refine opTail ⟨3, ser, smp, frm, to, tot⟩ ⟨3, ser, ⟨0, 0⟩, frm, to, tot⟩ (decide (1 ≤ tot) && decide (tot ≤ 5)) _ _ _ ?_ ?_ ?_ ?_
   ·rw [Bool.eq_iff_iff]
    simp [opOk, hser, opn_ext, hsm, zSmp]
    grind
   all_goals simp only [go_sem]
 by_cases k4 : kind = 4
 ·subst k4
  refine run_seqV ?_
  simp only [go_sem]
  refine ⟨rfl, opTail ⟨4, ser, smp, frm, to, tot⟩ ⟨4, ser, ⟨0, 0⟩, frm, 0, 0⟩ (serT ser) _ _ _ ?_ ?_ ?_ ?_⟩
  ·rw [Bool.eq_iff_iff]
   simp [opOk, opn_ext, hsm, zSmp]
   grind
  all_goals simp only [go_sem]
 refine run_seqV ?_
 simp only [go_sem, k1, k2, k3, k4]
 refine opTail ⟨kind, ser, smp, frm, to, tot⟩ ⟨kind, mkS [], ⟨0, 0⟩, 0, 0, 0⟩ false _ _ _ ?_ ?_ ?_ ?_
 ·simp [opOk, k1, k2, k3, k4]
 all_goals simp only [go_sem]
end Go.Proofs.YtpdcpdngckpgbaaGreat.A
end
section
namespace Go.Proofs.YtpdcpdngckpgbaaGreat.A
open Go Go.Proofs.YtpdcpdngckpgbaaGreatAbs
theorem subS_b {x y : Bool} (h : x = y) : SubS (.b x) (.b y) := by rw [h]; exact SubS.refl _
set_option maxRecDepth 20000 in
theorem rOpB_rc (o : Opn) (hs : o.ser.size ≤ 140737488355328) (M : List Blk) : CallR Tryz.prog M n_windroseref14_Op [opnA o] (.b (opOk o)) M := by
 refine callPG F_windroseref14_Op (Nat.le_of_ble_eq_true rfl) (by simp only [go_sem]) ?_ M
 have hsm : ∀ a b : Smp, a = b ↔ a.t = b.t ∧ a.v = b.v := fun a b => by cases a; cases b; simp
 obtain ⟨kind, ser, smp, frm, to, tot⟩ := o
 simp only at hs ⊢
 refine run_seqV ?_
 simp only [go_sem]
 refine run_seqV ?_
 by_cases k2 : kind = 2
 ·subst k2
  simp only [go_sem]
  refine fin0 (.inr rfl) rfl trivial ?_ (by simp only [go_sem])
  simp only [go_sem, mkRes]
  refine subS_b ?_
  rw [Bool.eq_iff_iff]
  simp [opOk, hsm, zSmp]
  grind
 simp only [go_sem, k2]
 refine run_seqV ?_
 simp only [go_sem]
 refine call0 (rseriesB_rc ser hs) ?_
 simp only [go_sem]
 cases hser : serT ser with
 | false =>
  simp only [go_sem]
  have : opOk ⟨kind, ser, smp, frm, to, tot⟩ = false := by simp [opOk, hser, k2]
  rw [this]
  exact fin0 (.inr rfl) rfl trivial (SubS.refl _) (by simp only [go_sem])
 | true =>
  simp only [go_sem]
  refine run_seqV ?_
  by_cases k1 : kind = 1
  ·subst k1
   simp only [go_sem]
   refine ⟨fun hc => ?_, fun hc => ?_⟩
   ·simp only [hc]
    refine callLg (fun _ => rMay_rc [smp] (Nat.le_of_ble_eq_true rfl) []) (fun _ => ⟨snapL [smp] rfl, trivial⟩) (by simp only [go_sem]) ?_
    simp only [go_sem, smsOk_one]
    refine fin0 (.inr rfl) rfl trivial ?_ (by simp only [go_sem])
    simp only [go_sem, mkRes]
    refine subS_b ?_
    simp [opOk, hser]
    simp at hc
    simp [hc]
   ·simp only [hc, go_sem]
    refine ops_end ?_
    simp only [go_sem]
    refine fin0 (.inr rfl) rfl trivial ?_ (by simp only [go_sem])
    simp only [go_sem, mkRes]
    refine subS_b ?_
    simp [opOk, hser]
    simp at hc
    grind
  by_cases k3 : kind = 3
  ·subst k3
   simp only [go_sem]
   refine fin0 (.inr rfl) rfl trivial ?_ (by simp only [go_sem])
   simp only [go_sem, mkRes]
   refine subS_b ?_
   rw [Bool.eq_iff_iff]
   simp [opOk, hser, hsm, zSmp]
   try grind
  by_cases k4 : kind = 4
  ·subst k4
   simp only [go_sem]
   refine fin0 (.inr rfl) rfl trivial ?_ (by simp only [go_sem])
   simp only [go_sem, mkRes]
   refine subS_b ?_
   rw [Bool.eq_iff_iff]
   simp [opOk, hser, hsm, zSmp]
   try grind
  simp only [go_sem, k1, k3, k4]
  refine V_sound ?_
  simp only [go_sem]
  have : opOk ⟨kind, ser, smp, frm, to, tot⟩ = false := by simp [opOk, k1, k2, k3, k4]
  rw [this]
  exact fin0 (.inr rfl) rfl trivial (SubS.refl _) (by simp only [go_sem])
theorem rOp_rc (o : Opn) (hs : o.ser.size ≤ 2000) (M : List Blk) : CallR Tryz.prog M n_windroseref14_Op [opnA o] (.b (opOk o)) M := rOpB_rc o (by omega) M
end Go.Proofs.YtpdcpdngckpgbaaGreat.A
end
section
namespace Go.Proofs.YtpdcpdngckpgbaaGreat.A
open Go Go.Proofs.YtpdcpdngckpgbaaGreatAbs
structure Ans where
 code : Int
 has : Bool
 n : Int
instance : Inhabited Ans := ⟨⟨0, false, 0⟩⟩
structure Dn where
 client : Int
 id : Int
 ans : Ans
instance : Inhabited Dn := ⟨⟨0, 0, ⟨0, false, 0⟩⟩⟩
@[go_sem] def Dn.c (x : Dn) : Nat → CV
 | 0 => .v (.int .i64 x.client)
 | 1 => .v (.int .i64 x.id)
 | 2 => .v (.int .i64 x.ans.code)
 | 3 => .v (.bool x.ans.has)
 | _ => .v (.int .i64 x.ans.n)
structure Lin where
 ser : ByteArray
 smps : List Smp
instance : Inhabited Lin := ⟨⟨mkS [], []⟩⟩
@[go_sem] def Lin.c (x : Lin) : Nat → CV
 | 0 => .v (.string x.ser)
 | _ => smpCV x.smps
structure Shf where
 lines : List Lin
 dones : List Dn
 floor : Int
instance : Inhabited Shf := ⟨⟨[], [], 0⟩⟩
abbrev linL (l : List Lin) : Pt := immP 2 Lin.c l
abbrev dnL (l : List Dn) : Pt := immP 5 Dn.c l
abbrev shfA (s : Shf) : Pt := .agg [.c (immL 2 Lin.c s.lines), .c (immL 5 Dn.c s.dones), .c (.v (.int .i64 s.floor))]
@[go_sem] def Shf.c (x : Shf) : Nat → CV
 | 0 => immL 2 Lin.c x.lines
 | 1 => immL 5 Dn.c x.dones
 | _ => .v (.int .i64 x.floor)
structure zShf (s : Shf) : Prop where
 ll : s.lines.length ≤ 1000
 dl : s.dones.length ≤ 1000
 ser : ∀ i, i < s.lines.length → (s.lines.getD i default).ser.size ≤ 2000
 smp : ∀ i, i < s.lines.length → (s.lines.getD i default).smps.length ≤ 1000
def lnAt (l : List Lin) (f : Int) (i : Nat) : Bool := serT (l.getD i default).ser && (i == 0 || sLt (l.getD (i - 1) default).ser (l.getD i default).ser) && decide (0 < (l.getD i default).smps.length) && smsOk (l.getD i default).smps && decide (f ≤ ((l.getD i default).smps.getD 0 default).t)
def dnAt (l : List Dn) (i : Nat) : Bool := decide (1 ≤ (l.getD i default).client) && decide ((l.getD i default).client ≤ 2147483647) && decide (1 ≤ (l.getD i default).id) && decide ((l.getD i default).id ≤ 2147483647) && (i == 0 || decide ((l.getD (i - 1) default).client < (l.getD i default).client))
def shOk (s : Shf) : Bool := decide (s.lines.length ≤ 16) && decide (s.dones.length ≤ 8) && decide (0 ≤ s.floor) && decide (s.floor ≤ 1099511627776) && (List.range s.lines.length).all (lnAt s.lines s.floor) && (List.range s.dones.length).all (dnAt s.dones)
theorem ifne (b : Bool) : ((if b = true then (0 : Int) else 1) != 0) = !b := by cases b <;> rfl
theorem lnAt_key (l : List Lin) (f : Int) {k : Nat} (hk : k ≤ 140737488355328) : (!serT (l.getD k default).ser || decide (0 < (k : Int)) && (sLt (l.getD k default).ser (l.getD (IntKind.i64.wrap ((k : Int) - 1)).toNat default).ser || decide ((l.getD k default).ser = (l.getD (IntKind.i64.wrap ((k : Int) - 1)).toNat default).ser)) || ((l.getD k default).smps.length : Int) == 0 || (if smsOk (l.getD k default).smps = true then (0 : Int) else 1) != 0 || decide (((l.getD k default).smps.getD 0 default).t < f)) = !lnAt l f k := by
 unfold lnAt
 rw [ifne, leS_lt]
 have e1 : ((((l.getD k default).smps.length : Nat) : Int) == 0) = !decide (0 < (l.getD k default).smps.length) := by
  rw [Bool.eq_iff_iff]; simp
 have e2 : decide (((l.getD k default).smps.getD 0 default).t < f) = !decide (f ≤ ((l.getD k default).smps.getD 0 default).t) := by
  rw [Bool.eq_iff_iff]; simp
 rw [e1, e2]
 by_cases h0 : k = 0
 ·subst h0
  have : decide ((0 : Int) < ((0 : Nat) : Int)) = false := rfl
  rw [this]
  simp only [Bool.false_and, Bool.or_false, beq_self_eq_true, Bool.true_or, Bool.and_true, Bool.not_and]
 ·rw [wpr (by omega) hk, decide_eq_true (show (0 : Int) < (k : Int) by omega)]
  have e : (k == 0) = false := by simpa using h0
  simp only [e, Bool.true_and, Bool.false_or, Bool.not_and]
theorem dnAt_key (l : List Dn) {k : Nat} (hk : k ≤ 140737488355328) : (!decide (1 ≤ (l.getD k default).client) || !decide ((l.getD k default).client ≤ 2147483647) || (!decide (1 ≤ (l.getD k default).id) || !decide ((l.getD k default).id ≤ 2147483647)) || decide (0 < (k : Int)) && decide ((l.getD k default).client ≤ (l.getD (IntKind.i64.wrap ((k : Int) - 1)).toNat default).client)) = !dnAt l k := by
 unfold dnAt
 rw [Bool.eq_iff_iff]
 by_cases h0 : k = 0
 ·subst h0
  simp
  omega
 ·rw [wpr (by omega) hk]
  have e : (k == 0) = false := by simpa using h0
  simp only [e, Bool.false_or, Bool.or_eq_true, Bool.and_eq_true, Bool.not_eq_true', Bool.and_eq_false_iff, Bool.or_eq_false_iff, decide_eq_true_eq, decide_eq_false_iff_not]
  omega
theorem shOk_f1 {s : Shf} {k : Nat} (hk : k < s.lines.length) (h : lnAt s.lines s.floor k = false) : shOk s = false := by rw [shOk, all_f hk h]; simp
theorem shOk_f2 {s : Shf} {k : Nat} (hk : k < s.dones.length) (h : dnAt s.dones k = false) : shOk s = false := by rw [shOk, all_f hk h]; simp
set_option maxRecDepth 20000 in
theorem sCheck_rc (s : Shf) (hz : zShf s) (M : List Blk) : CallR Tryz.prog M n_shelf_Check [shfA s] (.i (if shOk s then 0 else 1)) M := by
 refine callPG F_shelf_Check (Nat.le_of_ble_eq_true rfl) (by simp only [go_sem]) ?_ M
 obtain ⟨lines, dones, floor⟩ := s
 obtain ⟨hll, hdl, hser, hsmp⟩ := hz
 simp only at hll hdl hser hsmp ⊢
 have hbad : ∀ (e : Nat → SV) (X : List Blk), shOk ⟨lines, dones, floor⟩ = false → e 2 = .i 1 → FinK 109 0 [.t 2] (.i (if shOk ⟨lines, dones, floor⟩ then 0 else 1)) [] .ret ⟨e, X⟩ := by
  intro e X h h2
  rw [h]
  exact fin0 (.inr rfl) (qs := [.i 1]) (cnd := True) (by simp only [go_sem, h2]) trivial (SubS.refl _) (by simp only [go_sem])
 refine run_seqV ?_
 simp only [go_sem]
 refine run_seqV ?_
 simp only [go_sem]
 refine callg0 (fun _ => in_rc floor 0 1099511627776) ?_
 simp only [go_sem]
 refine ⟨fun hc => hbad _ _ ?_ (by simp only [go_sem]), fun hc => ?_⟩
 ·cases h : shOk ⟨lines, dones, floor⟩ with
  | false => rfl
  | true =>
   exfalso
   simp only [shOk, Bool.and_eq_true, decide_eq_true_eq] at h
   simp only [Bool.or_eq_true, decide_eq_true_eq, Bool.not_eq_true', decide_eq_false_iff_not] at hc
   omega
 refine run_seqV ?_
 simp only [go_sem]
 refine V_loop (ι := Nat) (J := fun k => k ≤ lines.length ∧ ∀ i, i < k → lnAt lines floor i = true) (env := fun k => [(1, .p (.one (.ptr 0 0 0 0))), (24, .p (linL lines)), (25, .i lines.length), (26, .i k)]) (mem := fun _ => [.rows 77 3 0 [[.c (immL 2 Lin.c lines), .c (immL 5 Dn.c dones), .c (.v (.int .i64 floor))]] true]) (μ := fun k => lines.length - k) 0 ⟨Nat.zero_le _, fun j hj => by omega⟩ ⟨[], by simp only [go_sem], Nat.zero_le _, by simp only [go_sem], by simp only [go_sem, ltB]⟩ ?_
 rintro k ⟨hk, hok⟩
 simp only [go_sem]
 refine ⟨fun h1 => ⟨by omega, ?_⟩, fun h1 => ?_⟩
 ·refine call0 (series_rc _ (hser k h1)) ?_
  simp only [go_sem]
  have hs1 := hsmp k h1
  refine ⟨fun hc => ?_, callg0 (fun _ => bCheck_rc _ (by omega)) ?_⟩
  ·have := (Bool.and_eq_true_iff.1 hc).2
   rw [w64p (by simpa using this) (by omega)]
   omega
  simp only [go_sem]
  refine ⟨fun hc => ?_, ?_⟩
  ·have hc := (Bool.and_eq_true_iff.1 (Bool.and_eq_true_iff.1 hc).1).2
   rw [Bool.not_eq_true', beq_eq_false_iff_ne] at hc
   omega
  rw [lnAt_key _ _ (by omega)]
  refine ⟨fun hc => hbad _ _ (shOk_f1 h1 (by simpa using hc)) (by simp only [go_sem]), fun hc => ⟨k + 1, ⟨by omega, fun j hj => ?_⟩, by omega, ?_⟩⟩
  ·by_cases e : j = k
   ·subst e; simpa using hc
   ·exact hok j (by omega)
  ·refine ⟨_, by simp only [go_sem]; rfl, Nat.zero_le _, ?_, by simp only [go_sem, ltB]⟩
   simp only [go_sem, w64s (show k < 9223372036854775807 by omega)]
 ·refine run_seqV ?_
  simp only [go_sem]
  refine V_loop (ι := Nat) (J := fun k => k ≤ dones.length ∧ ∀ i, i < k → dnAt dones i = true) (env := fun k => [(1, .p (.one (.ptr 0 0 0 0))), (75, .p (dnL dones)), (76, .i dones.length), (77, .i k)]) (mem := fun _ => [.rows 77 3 0 [[.c (immL 2 Lin.c lines), .c (immL 5 Dn.c dones), .c (.v (.int .i64 floor))]] true]) (μ := fun k => dones.length - k) 0 ⟨Nat.zero_le _, fun j hj => by omega⟩ ⟨[], by simp only [go_sem], Nat.zero_le _, by simp only [go_sem], by simp only [go_sem, ltB]⟩ ?_
  rintro j ⟨hj, hokd⟩
  simp only [go_sem]
  refine ⟨fun h2 => ⟨by omega, ?_⟩, fun h2 => ?_⟩
  ·refine call0 (in_rc _ _ _) ?_
   simp only [go_sem]
   refine callg0 (fun _ => in_rc _ _ _) ?_
   simp only [go_sem]
   rw [dnAt_key _ (by omega)]
   refine ⟨fun hc => ?_, fun hc => hbad _ _ (shOk_f2 h2 (by simpa using hc)) (by simp only [go_sem]), fun hc => ⟨j + 1, ⟨by omega, fun i hi => ?_⟩, by omega, ?_⟩⟩
   ·have := (Bool.and_eq_true_iff.1 hc).2
    rw [w64p (by simpa using this) (by omega)]
    omega
   ·by_cases e : i = j
    ·subst e; simpa using hc
    ·exact hokd i (by omega)
   ·refine ⟨_, by simp only [go_sem]; rfl, Nat.zero_le _, ?_, by simp only [go_sem, ltB]⟩
    simp only [go_sem, w64s (show j < 9223372036854775807 by omega)]
  ·have hok' : shOk ⟨lines, dones, floor⟩ = true := by
    simp only [Bool.or_eq_false_iff, decide_eq_false_iff_not, Bool.not_eq_false', decide_eq_true_eq] at hc
    simp only [shOk, Bool.and_eq_true, decide_eq_true_eq]
    exact ⟨⟨by omega, all_t (fun i hi => hok i (by omega))⟩, all_t (fun i hi => hokd i (by omega))⟩
   rw [hok']
   refine V_sound ?_
   simp only [go_sem]
   exact fin0 (.inr rfl) rfl trivial (SubS.refl _) (by simp only [go_sem])
end Go.Proofs.YtpdcpdngckpgbaaGreat.A
end
section
namespace Go.Proofs.YtpdcpdngckpgbaaGreat.A
open Go Go.Proofs.YtpdcpdngckpgbaaGreatAbs
end Go.Proofs.YtpdcpdngckpgbaaGreat.A
end
section
namespace Go.Proofs.YtpdcpdngckpgbaaGreat.A
open Go Go.Proofs.YtpdcpdngckpgbaaGreatAbs
theorem line1_rc (x : Lin) (k : ByteArray) (M : List Blk) : CallR Tryz.prog M n_shelf_line_1 [.agg [.c (.v (.string x.ser)), .c (smpCV x.smps)], .s k] (.i (cmpS x.ser k)) M := by
 refine callP F_shelf_line_1 (Nat.le_of_ble_eq_true rfl) (by simp only [go_sem]) (by simp only [go_sem]) ?_ M
 simp only [c_shelf_line_1, go_sem]
 refine call0 (Compare_rc _ _) ?_
 simp only [go_sem]
def atL (l : List Lin) (k : ByteArray) : Nat := bsF (fun i => decide (cmpS (l.getD i default).ser k < 0)) 0 l.length
def hitL (l : List Lin) (k : ByteArray) : Bool := decide (atL l k < l.length) && (cmpS (l.getD (atL l k) default).ser k == 0)
theorem atL_le (l : List Lin) (k : ByteArray) : atL l k ≤ l.length := (bsF_le l.length 0 l.length (by omega) (Nat.zero_le _)).2
theorem hitL_lt {l : List Lin} {k : ByteArray} (h : hitL l k = true) : atL l k < l.length := by
 unfold hitL at h
 exact of_decide_eq_true (Bool.and_eq_true_iff.1 h).1
theorem line_rc (s : Shf) (hl : s.lines.length ≤ 140737488355328) (k : ByteArray) (M : List Blk) : CallR Tryz.prog M n_shelf_line [shfA s, .s k] (.tup [.i (atL s.lines k : Nat), .b (hitL s.lines k)]) M := by
 refine callP F_shelf_line (Nat.le_of_ble_eq_true rfl) (by simp only [go_sem]) (by simp only [go_sem]) ?_ M
 simp only [c_shelf_line, go_sem]
 refine call0 (fun M => bs_rc F_slices_BinarySearchFunc_api_Line_api_Line_string s.lines.length (by omega) (fun i j => (s.lines.getD i default).c j) (.s k) n_shelf_line_1 0 (fun _ => default) (fun i => cmpS (s.lines.getD i default).ser k) (by simp only [go_sem]) (fun i hi => absurd hi (Nat.not_lt_zero _)) (fun i hi M => line1_rc (s.lines.getD i default) k M) M) ?_
 simp only [go_sem]
 exact ⟨rfl, rfl⟩
abbrev ownA (b vb ll c vc dl : Nat) (f : Int) : Pt := .agg [.arr 2 b vb 0 ll, .arr 5 c vc 0 dl, .c (.v (.int .i64 f))]
abbrev lnR (v : Nat) (l : List Lin) (f : Bool) : Blk := .rows 136 2 v (rowsL 2 Lin.c l) f
abbrev dnR (v : Nat) (l : List Dn) (f : Bool) : Blk := .rows 130 5 v (rowsL 5 Dn.c l) f
theorem cloneAt {α : Type} [Inhabited α] {f t sz by_ : Nat} {z : List Value} {c : α → Nat → CV} (hF : Fun Tryz.prog f 8 (cloneC t sz by_ z) [.t 2]) (l : List α) (hl : l.length * by_ ≤ 140737488355328) {n : Nat} (N : List Blk) (hN : N[n]? = some (.rows 0 0 0 [] true)) :
  CallR Tryz.prog N f [immP sz c l] (.p (.one (.arr sz n 1 0 l.length))) (N.set n (.rows t sz 1 (rowsL sz c l) false)) :=
 callR_place (v := 1) (cloneO_rc hF l hl (M := []) (by simp)) (rowsL_closed l) (by simp only [go_sem]) (by rw [rowsL_len]; exact Nat.le_refl _) n N hN
set_option maxRecDepth 20000 in
theorem own_rc (s : Shf) (hz : zShf s) {M : List Blk} (hMB : ∀ x ∈ M, ltB M.length x) : CallR Tryz.prog M n_shelf_own [shfA s] (.p (ownA (M.length + 2) 1 s.lines.length (M.length + 3) 1 s.dones.length s.floor)) (M ++ [.dead, .rows 77 3 0 [[.arr 2 (M.length + 2) 1 0 s.lines.length, .arr 5 (M.length + 3) 1 0 s.dones.length, .c (.v (.int .i64 s.floor))]] true, lnR 1 s.lines false, dnR 1 s.dones false]) := by
 refine callR_intro F_shelf_own (by simp) ?_
 obtain ⟨lines, dones, floor⟩ := s
 obtain ⟨hll, hdl, hser, hsmp⟩ := hz
 simp only at hll hdl hser hsmp ⊢
 refine run_seqV ?_
 simp only [go_sem, mget, mget0, mset, mset0, List.append_assoc, List.length_append, List.length_cons, List.length_nil, Nat.zero_add]
 refine run_regX 2 ?_
 simp only [go_sem, mget, mget0, mset, mset0, List.append_assoc, List.length_append, List.length_cons, List.length_nil, Nat.zero_add, List.replicate_succ, List.replicate_zero]
 have mS := fun (l : List Blk) (k : Nat) (X : Blk) => mset (M := M) (l := l) (k := k) (X := X)
 refine callxn (by simp only [go_sem, mget]) (fun N hN => cloneAt F_slices_Clone_api_Line_api_Line lines (by omega) N hN) ?_
 simp only [go_sem, mget, mget0, mset, mset0, Nat.add_assoc, Nat.reduceAdd]
 refine callxn (by simp only [go_sem, mget]) (fun N hN => cloneAt F_slices_Clone_api_Done_api_Done dones (by omega) N hN) ?_
 simp only [go_sem, mget, mget0, mset, mset0, Nat.add_assoc, Nat.reduceAdd]
 refine ⟨pairs_un M.length ?_ ?_, ?_⟩
 ·simp only [unshift, List.map_cons, List.map_nil, Nat.add_sub_cancel_left, Nat.sub_self]
  rfl
 ·simp
 refine run_seqV ?_
 simp only [go_sem, mget, mget0, mset, mset0]
 have hBL : ∀ x ∈ M ++ [Blk.rows 77 3 0 [[.arr 2 (M.length + 2) 1 0 lines.length, .arr 5 (M.length + 3) 1 0 dones.length, .c (.v (.int .i64 floor))]] true, .rows 77 3 0 [[.c (.v (.slice none 0 0)), .c (.v (.slice none 0 0)), .c (.v (.int .i64 0))]] true, lnR 1 lines false, dnR 1 dones false], ltB (M ++ [Blk.rows 77 3 0 [[.arr 2 (M.length + 2) 1 0 lines.length, .arr 5 (M.length + 3) 1 0 dones.length, .c (.v (.int .i64 floor))]] true, .rows 77 3 0 [[.c (.v (.slice none 0 0)), .c (.v (.slice none 0 0)), .c (.v (.int .i64 0))]] true, lnR 1 lines false, dnR 1 dones false]).length x := by
  refine ltM_app hMB ?_
  intro x hx
  simp only [List.mem_cons, List.not_mem_nil, or_false] at hx
  rcases hx with rfl | rfl | rfl | rfl
  ·simp only [go_sem, ltB, List.length_cons, List.length_nil]
  ·simp only [go_sem, ltB]
  ·exact rowsL_ltB _ _ _ _ _
  ·exact rowsL_ltB _ _ _ _ _
 refine R_loop (ι := Nat) (J := fun k => k ≤ lines.length)
  (env := fun k => [(1, .p (.one (.ptr M.length 0 0 0))), (2, .p (.one (.ptr (M.length + 1) 0 0 0))), (14, .p (.one (.arr 2 (M.length + 2) 1 0 lines.length))), (15, .i lines.length), (16, .i k)])
  (mem := fun _ => M ++ [.rows 77 3 0 [[.arr 2 (M.length + 2) 1 0 lines.length, .arr 5 (M.length + 3) 1 0 dones.length, .c (.v (.int .i64 floor))]] true, .rows 77 3 0 [[.c (.v (.slice none 0 0)), .c (.v (.slice none 0 0)), .c (.v (.int .i64 0))]] true, lnR 1 lines false, dnR 1 dones false])
  (μ := fun k => lines.length - k) 0 (Nat.zero_le _) ⟨[], ?_, ?_, ?_, ?_⟩ ?_
 ·simp only [List.append_nil]
 ·rw [List.length_append]; omega
 ·simp only [go_sem, List.length_append, List.length_cons, List.length_nil]
  omega
 ·exact hBL
 rintro k hk
 refine run_seqV ?_
 simp only [go_sem]
 refine run_seqV ?_
 simp only [go_sem]
 refine ⟨fun h1 => ?_, fun h1 => ?_⟩
 ·refine run_seq ?_
  refine run_block ?_
  refine run_seqV ?_
  simp only [go_sem, mget, mget0, mset, mset0, List.append_assoc, List.length_append, List.length_cons, List.length_nil, Nat.zero_add, Nat.add_assoc, Nat.reduceAdd]
  have hrow := rowsL_getD (sz := 2) (c := Lin.c) h1
  have hset := rowsL_set (sz := 2) (c := Lin.c) lines k (lines.getD k default)
  have hsame : lines.set k (lines.getD k default) = lines := set_self (getD_some h1)
  rw [hsame] at hset
  have hs1 := hsmp k h1
  simp only [hrow, go_sem]
  simp only [go_sem] at hset
  refine ⟨by omega, h1, ?_⟩
  refine V_sound ?_
  simp only [go_sem, mget, mget0, mset, mset0]
  refine call0 (clone_rc (c := Smp.c) F_slices_Clone_api_Sample_api_Sample (lines.getD k default).smps (by omega)) ?_
  simp only [go_sem, mget, mget0, mset, mset0, hrow, hset]
  refine ⟨by omega, h1, h1, V_sound ?_⟩
  simp only [go_sem, w64s (show k < 9223372036854775807 by omega)]
  refine ⟨k + 1, h1, by omega, [_], by simp only [List.append_assoc, List.cons_append, List.nil_append]; rfl, ?_, ?_, ?_⟩
  ·rw [List.length_append]; omega
  ·simp only [go_sem, List.length_append, List.length_cons, List.length_nil]
   omega
  ·exact hBL
 ·refine V_sound ?_
  simp only [go_sem, mget, mget0, mset, mset0]
  refine fin_m (.inr rfl) (gh_kill M.length) [] (qs := [ownA (M.length + 2) 1 lines.length (M.length + 3) 1 dones.length floor]) (cnd := True) ?_ trivial ?_ (SubS.refl _) ?_ ?_ ?_
  ·simp only [go_sem, mget, mget0, mset, mset0]
  ·simp only [mset0, go_sem]
  ·rw [List.length_append]; omega
  ·simp only [go_sem, List.length_append, List.length_cons, List.length_nil]
  ·refine ltM_app hMB ?_
   intro x hx
   simp only [List.mem_cons, List.not_mem_nil, or_false] at hx
   rcases hx with rfl | rfl | rfl | rfl
   ·trivial
   ·simp only [go_sem, ltB, List.length_cons, List.length_nil]
   ·exact rowsL_ltB _ _ _ _ _
   ·exact rowsL_ltB _ _ _ _ _
end Go.Proofs.YtpdcpdngckpgbaaGreat.A
end
section
namespace Go.Proofs.YtpdcpdngckpgbaaGreat.A
open Go Go.Proofs.YtpdcpdngckpgbaaGreatAbs
theorem ovl_lin : Ovl Tryz.prog 219 2 := ⟨⟨_, 74, 4, 136, Tryz.func219, by kernel_rfl, by kernel_rfl, by kernel_rfl, by kernel_rfl, by kernel_rfl, by kernel_rfl⟩⟩
abbrev ansA (a : Ans) : Pt := .agg [.c (.v (.int .i64 a.code)), .c (.v (.bool a.has)), .c (.v (.int .i64 a.n))]
theorem snap_shf {M : List Blk} {b vb c vc : Nat} {lines : List Lin} {dones : List Dn} {fb fc : Bool} (hb : M[b]? = some (lnR vb lines fb)) (hc : M[c]? = some (dnR vc dones fc)) (f : Int) : SnapP M (ownA b vb lines.length c vc dones.length f) (shfA ⟨lines, dones, f⟩) := by
 have h1 : Snap M (.arr 2 b vb 0 lines.length) (.c (immL 2 Lin.c lines)) := snapL lines hb
 have h2 : Snap M (.arr 5 c vc 0 dones.length) (.c (immL 5 Dn.c dones)) := snapL dones hc
 refine ⟨rfl, fun k a a' h h' => ?_⟩
 match k, h, h' with
 | 0, h, h' => injection h with h; injection h' with h'; subst h; subst h'; exact h1
 | 1, h, h' => injection h with h; injection h' with h'; subst h; subst h'; exact h2
 | 2, h, h' => injection h with h; injection h' with h'; subst h; subst h'; exact Snap.same _ trivial
def wrL (lines : List Lin) (k : ByteArray) : List Lin := if hitL lines k = true then lines else lines.take (atL lines k) ++ ⟨k, []⟩ :: lines.drop (atL lines k)
def writeS (lines : List Lin) (floor : Int) (o : Opn) : List Lin × Ans :=
 if o.smp.t < floor then (lines, ⟨9, false, 0⟩)
 else if hitL lines o.ser = false ∧ lines.length = 16 then (lines, ⟨6, false, 0⟩)
 else
  let i := atL lines o.ser
  let l1 := wrL lines o.ser
  let p := putS (l1.getD i default).smps o.smp
  (l1.set i ⟨(l1.getD i default).ser, p.1⟩, if p.2 = 7 then ⟨0, false, 0⟩ else ⟨p.2, decide (p.2 = 0), 0⟩)
section
variable {M l : List Blk} {k b : Nat} {X Y : Blk}
theorem mgetS : (M.set b Y ++ l)[M.length + k]? = l[k]? := by
 have := mget (M := M.set b Y) (l := l) (k := k)
 rwa [List.length_set] at this
theorem mgetS0 : (M.set b Y ++ l)[M.length]? = l[0]? := mgetS (k := 0)
theorem msetS : (M.set b Y ++ l).set (M.length + k) X = M.set b Y ++ l.set k X := by
 have := mset (M := M.set b Y) (l := l) (k := k) (X := X)
 rwa [List.length_set] at this
theorem msetS0 : (M.set b Y ++ l).set M.length X = M.set b Y ++ l.set 0 X := msetS (k := 0)
end
theorem evo_of_gh {M M' : List Blk} (h : ∀ m, Gh 0 m ⟨fun _ => .any, M⟩ ⟨fun _ => .any, M'⟩) (I : Im) (σ : List Plc) (w : World) (hm : Mem I σ M w) : ∃ I' σ', Evo I σ M w I' σ' M' w := by
 have hs : Sim 0 I σ M w ⟨fun _ => .any, M⟩ ⟨#[], []⟩ w := ⟨I, σ, Evo.refl hm, fun i => trivial, rfl, rfl⟩
 obtain ⟨I', σ', hev, _⟩ := h σ.length I σ M w ⟨#[], []⟩ w rfl hs
 exact ⟨I', σ', hev⟩
theorem getD_ins {α : Type} [Inhabited α] {l : List α} {i : Nat} {x : α} (h : i ≤ l.length) : (l.take i ++ x :: l.drop i).getD i default = x := by
 have h1 : (l.take i).length = i := by rw [List.length_take]; omega
 rw [List.getD_eq_getElem?_getD, List.getElem?_append_right (by omega), h1, Nat.sub_self]
 rfl
def tailW : C :=
 (.seq (.reg true [oo 50 (.fa 0 (.t 2)), oo 51 (.ld false 1 (.t 50)), om 52 6, oo 53 (.ia 2 (.t 51) (.t 52)), oo 54 (.fa 1 (.t 53)), oo 55 (.ld false 1 (.t 54)), oo 56 (.fa 2 (.t 3)), oo 57 (.ld true 2 (.t 56)), oo 58 (.call (kf n_samples_Put) [(.t 55), (.t 57)]), om 49 58, oo 59 (.ex (.t 49) 0), oo 60 (.ex (.t 49) 1), om 8 59, om 9 60])
 (.seq (.reg false [oo 61 (.fa 0 (.t 2)), oo 62 (.ld false 1 (.t 61)), om 63 6, om 64 8, oo 65 (.ia 2 (.t 62) (.t 63)), oo 66 (.fa 1 (.t 65)), on_ (.st 1 (.t 66) (.t 64))])
 (.seq (.seq (.reg false [om 67 9, oo 68 (.bin .eql (.t 67) (ki 7))])
 (.cond (.t 68)
 (.seq (.reg false [oo 69 (.ld true 3 (.t 2)), oo 70 (.bld [.int .i64 0, .bool false, .int .i64 0] []), on_ (.st 3 (.t 4) (.t 69)), on_ (.st 3 (.t 5) (.t 70))])
 .ret)
 .skip))
 (.seq (.reg false [oo 71 (.ld true 3 (.t 2)), om 72 9, om 73 9, oo 74 (.bin .eql (.t 73) (ki 0)), oo 75 (.bld [.int .i64 0, .bool false, .int .i64 0] [(0, 1, (.t 72)), (1, 1, (.t 74))]), on_ (.st 3 (.t 4) (.t 71)), on_ (.st 3 (.t 5) (.t 75))])
 .ret))))
abbrev boxS (b v ll c vc dl : Nat) (f : Int) : Blk := .rows 77 3 0 [[.arr 2 b v 0 ll, .arr 5 c vc 0 dl, .c (.v (.int .i64 f))]] true
abbrev zSh : Blk := .rows 77 3 0 [[.c (.v (.slice none 0 0)), .c (.v (.slice none 0 0)), .c (.v (.int .i64 0))]] true
abbrev ansB (a : Ans) : Blk := .rows 67 3 0 [[.c (.v (.int .i64 a.code)), .c (.v (.bool a.has)), .c (.v (.int .i64 a.n))]] true
theorem endSA {n : Nat} {M1 : List Blk} {b v c vc dl : Nat} {l2 : List Lin} {f : Bool} (hbl : b < M1.length) (hcl : c < M1.length) (hMB : ∀ x ∈ M1, ltB M1.length x) (floor : Int) (a : Ans) (e : Nat → SV) (D : List Blk) (X0 X1 : Blk)
  (h4 : e 4 = .p (.one (.ptr (M1.length + 2) 0 0 0))) (h5 : e 5 = .p (.one (.ptr (M1.length + 3) 0 0 0))) :
  FinK n M1.length [.l true 3 4, .l true 3 5] (.tup [ownA b v l2.length c vc dl floor, ansA a]) (M1.set b (lnR v l2 f)) .ret ⟨e, M1.set b (lnR v l2 f) ++ ([X0, X1, boxS b v l2.length c vc dl floor, ansB a] ++ D)⟩ := by
 have hg2 : ∀ l : List Blk, (M1.set b (lnR v l2 f) ++ l)[M1.length + 2]? = l[2]? := fun l => by
  have := mget (M := M1.set b (lnR v l2 f)) (l := l) (k := 2)
  rwa [List.length_set] at this
 have hg3 : ∀ l : List Blk, (M1.set b (lnR v l2 f) ++ l)[M1.length + 3]? = l[3]? := fun l => by
  have := mget (M := M1.set b (lnR v l2 f)) (l := l) (k := 3)
  rwa [List.length_set] at this
 refine fin_m (.inr rfl) (Gh.refl _) _ (qs := [ownA b v l2.length c vc dl floor, ansA a]) (cnd := True ∧ True) ?_ ⟨trivial, trivial⟩ rfl (SubS.refl _) ?_ ?_ ?_
 ·simp only [go_sem, h4, h5, hg2, hg3]
 ·rw [List.length_set]; exact Nat.le_refl _
 ·simp only [go_sem, List.length_set]
  exact ⟨hbl, hcl⟩
 ·exact ltM_set hMB (rowsL_ltB _ _ _ _ _)
def putL (l1 : List Lin) (i : Nat) (s : Smp) : List Lin × Ans :=
 (l1.set i ⟨(l1.getD i default).ser, (putS (l1.getD i default).smps s).1⟩, if (putS (l1.getD i default).smps s).2 = 7 then ⟨0, false, 0⟩ else ⟨(putS (l1.getD i default).smps s).2, decide ((putS (l1.getD i default).smps s).2 = 0), 0⟩)
set_option maxRecDepth 20000 in
theorem wrTail {M1 : List Blk} {b v c vc dl : Nat} {l1 : List Lin} {f : Bool} (hb : M1[b]? = some (lnR v l1 f)) (hcl : c < M1.length) (hMB : ∀ x ∈ M1, ltB M1.length x) (floor : Int) (o : Opn) (i : Nat) (hi : i < l1.length) (hl1 : l1.length ≤ 2000) (hsz : (l1.getD i default).smps.length ≤ 1000) (e : Nat → SV) (D : List Blk)
  (h2 : e 2 = .p (.one (.ptr M1.length 0 0 0))) (h3 : e 3 = .p (.one (.ptr (M1.length + 1) 0 0 0))) (h4 : e 4 = .p (.one (.ptr (M1.length + 2) 0 0 0))) (h5 : e 5 = .p (.one (.ptr (M1.length + 3) 0 0 0))) (h6 : e 6 = .i i) :
  Run Tryz.prog 76 M1.length tailW ⟨e, M1 ++ ([boxS b v l1.length c vc dl floor, .rows 65 7 0 [opRow o] true, zSh, ansB ⟨0, false, 0⟩] ++ D)⟩ (FinK 76 M1.length [.l true 3 4, .l true 3 5] (.tup [ownA b v (putL l1 i o.smp).1.length c vc dl floor, ansA (putL l1 i o.smp).2]) (M1.set b (lnR v (putL l1 i o.smp).1 f))) := by
 have hbl : b < M1.length := getElem?_lt hb
 have hbA : ∀ l : List Blk, (M1 ++ l)[b]? = some (lnR v l1 f) := fun l => by rw [ga hbl, hb]
 have hsA : ∀ (l : List Blk) (X : Blk), (M1 ++ l).set b X = M1.set b X ++ l := fun l X => sa hbl
 have hrow := rowsL_getD (sz := 2) (c := Lin.c) hi
 simp only [go_sem] at hrow
 refine run_seqV ?_
 simp only [go_sem, mget, mget0, mset, mset0, h2, h3, h4, h5, h6, hbA, opRow, hrow]
 refine ⟨by omega, hi, hi, call0 (Put_rc (l1.getD i default).smps (by omega) o.smp) ?_⟩
 simp only [go_sem, mget, mget0, mset, mset0, h2, h3, h4, h5, h6, hbA, opRow, hrow]
 refine run_seqV ?_
 have hset : (rowsL 2 Lin.c l1).set i [.c (.v (.string (l1.getD i default).ser)), .c (smpCV (putS (l1.getD i default).smps o.smp).1)] = rowsL 2 Lin.c (putL l1 i o.smp).1 := rowsL_set (sz := 2) (c := Lin.c) l1 i ⟨(l1.getD i default).ser, (putS (l1.getD i default).smps o.smp).1⟩
 simp only [go_sem, mget, mget0, mset, mset0, h2, h3, h4, h5, h6, hbA, hsA, opRow, hrow, hset]
 have hlen : (putL l1 i o.smp).1.length = l1.length := by rw [putL, List.length_set]
 refine ⟨by omega, hi, hi, ?_⟩
 by_cases h7 : (putS (l1.getD i default).smps o.smp).2 = 7
 ·have ha : (putL l1 i o.smp).2 = ⟨0, false, 0⟩ := by rw [putL, if_pos h7]
  refine run_seqV ?_
  simp only [go_sem, mgetS, mgetS0, msetS, msetS0, h2, h3, h4, h5, h7]
  have := endSA (n := 76) (v := v) (l2 := (putL l1 i o.smp).1) (f := f) hbl hcl hMB floor (putL l1 i o.smp).2 (dl := dl) (vc := vc)
  rw [ha, hlen] at this ⊢
  exact this _ D _ _ (by simp only [go_sem, h4]) (by simp only [go_sem, h5])
 ·have ha : (putL l1 i o.smp).2 = ⟨(putS (l1.getD i default).smps o.smp).2, decide ((putS (l1.getD i default).smps o.smp).2 = 0), 0⟩ := by rw [putL, if_neg h7]
  refine run_seqV ?_
  simp only [go_sem, mgetS, mgetS0, msetS, msetS0, h2, h3, h4, h5, h7]
  refine V_sound ?_
  simp only [go_sem, mgetS, mgetS0, msetS, msetS0, h2, h3, h4, h5, h7]
  have := endSA (n := 76) (v := v) (l2 := (putL l1 i o.smp).1) (f := f) hbl hcl hMB floor (putL l1 i o.smp).2 (dl := dl) (vc := vc)
  rw [ha, hlen] at this ⊢
  exact this _ D _ _ (by simp only [go_sem, h4]) (by simp only [go_sem, h5])
set_option maxRecDepth 20000 in
theorem write_rc {M : List Blk} {b vb c vc : Nat} {lines : List Lin} {dones : List Dn} {fb fc : Bool} (hbc : b ≠ c) (hb : M[b]? = some (lnR vb lines fb)) (hc : M[c]? = some (dnR vc dones fc)) (hMB : ∀ x ∈ M, ltB M.length x) (floor : Int) (o : Opn)
  (hll : lines.length ≤ 1000) (hdl : dones.length ≤ 1000) (hsm : ∀ i, i < lines.length → (lines.getD i default).smps.length ≤ 1000) :
  ∃ v f, CallR Tryz.prog M n_shelf_write [ownA b vb lines.length c vc dones.length floor, opnA o] (.tup [ownA b v (writeS lines floor o).1.length c vc dones.length floor, ansA (writeS lines floor o).2]) (M.set b (lnR v (writeS lines floor o).1 f)) := by
 have hbl : b < M.length := getElem?_lt hb
 have hcl : c < M.length := getElem?_lt hc
 have hbA : ∀ l : List Blk, (M ++ l)[b]? = some (lnR vb lines fb) := fun l => by rw [ga hbl, hb]
 have hcA : ∀ l : List Blk, (M ++ l)[c]? = some (dnR vc dones fc) := fun l => by rw [ga hcl, hc]
 obtain ⟨N, hN⟩ : ∃ N : Prop, N = (¬ o.smp.t < floor ∧ ¬ (hitL lines o.ser = false ∧ lines.length = 16) ∧ hitL lines o.ser = false) := ⟨_, rfl⟩
 have hNd : Decidable N := by rw [hN]; infer_instance
 refine ⟨if N then vb + 1 else vb, if N then false else fb, callR_intro F_shelf_write (by simp) ?_⟩
 have hend : ∀ (lines' : List Lin) (v : Nat) (f : Bool) (a : Ans) (e : Nat → SV) (D : List Blk) (X0 X1 : Blk), e 4 = .p (.one (.ptr (M.length + 2) 0 0 0)) → e 5 = .p (.one (.ptr (M.length + 3) 0 0 0)) →
   FinK 76 M.length [.l true 3 4, .l true 3 5] (.tup [ownA b v lines'.length c vc dones.length floor, ansA a]) (M.set b (lnR v lines' f)) .ret ⟨e, M.set b (lnR v lines' f) ++ ([X0, X1, .rows 77 3 0 [[.arr 2 b v 0 lines'.length, .arr 5 c vc 0 dones.length, .c (.v (.int .i64 floor))]] true, .rows 67 3 0 [[.c (.v (.int .i64 a.code)), .c (.v (.bool a.has)), .c (.v (.int .i64 a.n))]] true] ++ D)⟩ := by
  intro lines' v f a e D X0 X1 h4 h5
  have hg2 : ∀ l : List Blk, (M.set b (lnR v lines' f) ++ l)[M.length + 2]? = l[2]? := fun l => by
   have := mget (M := M.set b (lnR v lines' f)) (l := l) (k := 2)
   rwa [List.length_set] at this
  have hg3 : ∀ l : List Blk, (M.set b (lnR v lines' f) ++ l)[M.length + 3]? = l[3]? := fun l => by
   have := mget (M := M.set b (lnR v lines' f)) (l := l) (k := 3)
   rwa [List.length_set] at this
  refine fin_m (.inr rfl) (Gh.refl _) _ (qs := [ownA b v lines'.length c vc dones.length floor, ansA a]) (cnd := True ∧ True) ?_ ⟨trivial, trivial⟩ rfl (SubS.refl _) ?_ ?_ ?_
  ·simp only [go_sem, h4, h5, hg2, hg3]
  ·rw [List.length_set]; exact Nat.le_refl _
  ·simp only [go_sem, List.length_set]
   exact ⟨hbl, hcl⟩
  ·exact ltM_set hMB (rowsL_ltB _ _ _ _ _)
 refine run_seqV ?_
 simp only [go_sem, mget, mget0, mset, mset0, List.append_assoc, List.length_append, List.length_cons, List.length_nil, Nat.zero_add, Nat.add_assoc, Nat.reduceAdd]
 refine run_seqV ?_
 simp only [go_sem, mget, mget0, mset, mset0]
 refine callL (line_rc ⟨lines, dones, floor⟩ (by simp only; omega) o.ser []) ⟨snap_shf (hbA _) (hcA _) floor, Snap.same _ trivial, trivial⟩ (by simp only [go_sem]) ?_
 simp only [go_sem]
 have hsame : ∀ (a : Ans) (e : Nat → SV) (D : List Blk) (X0 X1 : Blk), ¬ N → writeS lines floor o = (lines, a) → e 4 = .p (.one (.ptr (M.length + 2) 0 0 0)) → e 5 = .p (.one (.ptr (M.length + 3) 0 0 0)) →
   FinK 76 M.length [.l true 3 4, .l true 3 5] (.tup [ownA b (if N then vb + 1 else vb) (writeS lines floor o).1.length c vc dones.length floor, ansA (writeS lines floor o).2]) (M.set b (lnR (if N then vb + 1 else vb) (writeS lines floor o).1 (if N then false else fb))) .ret ⟨e, M ++ ([X0, X1, .rows 77 3 0 [[.arr 2 b vb 0 lines.length, .arr 5 c vc 0 dones.length, .c (.v (.int .i64 floor))]] true, .rows 67 3 0 [[.c (.v (.int .i64 a.code)), .c (.v (.bool a.has)), .c (.v (.int .i64 a.n))]] true] ++ D)⟩ := by
  intro a e D X0 X1 hn hw h4 h5
  rw [hw, if_neg hn, if_neg hn]
  have := hend lines vb fb a e D X0 X1 h4 h5
  rwa [set_self hb] at this ⊢
 refine run_seqV ?_
 by_cases hfl : o.smp.t < floor
 ·simp only [go_sem, mget, mget0, mset, mset0, hbA, hcA, hfl, decide_true]
  exact hsame ⟨9, false, 0⟩ _ [] _ _ (by rw [hN]; exact fun h => h.1 hfl) (by rw [writeS, if_pos hfl]) (by simp only [go_sem]) (by simp only [go_sem])
 cases hh : hitL lines o.ser with
 | true =>
  have hn : ¬ N := by rw [hN, hh]; simp
  have hw : writeS lines floor o = putL lines (atL lines o.ser) o.smp := by
   rw [writeS, if_neg hfl, if_neg (by rw [hh]; simp), wrL, if_pos hh, putL]
  rw [hw, if_neg hn, if_neg hn]
  have hi := hitL_lt hh
  simp only [go_sem, mget, mget0, mset, mset0, hbA, hcA, hfl, hh, decide_false]
  exact wrTail hb hcl hMB floor o (atL lines o.ser) hi (by omega) (hsm _ hi) _ [] (by simp only [go_sem]) (by simp only [go_sem]) (by simp only [go_sem]) (by simp only [go_sem]) (by simp only [go_sem])
 | false =>
  by_cases h16 : lines.length = 16
  ·have h16' : ((lines.length : Int) = 16) = True := eq_true (by omega)
   simp only [go_sem, mget, mget0, mset, mset0, hbA, hcA, hfl, hh, decide_false, h16']
   exact hsame ⟨6, false, 0⟩ _ [] _ _ (by rw [hN]; exact fun h => h.2.1 ⟨hh, h16⟩) (by rw [writeS, if_neg hfl, if_pos ⟨hh, h16⟩]) (by simp only [go_sem]) (by simp only [go_sem])
  ·have h16' : ((lines.length : Int) == 16) = false := by
    rw [beq_eq_false_iff_ne]; omega
   have hn : N := by rw [hN]; exact ⟨hfl, fun h => h16 h.2, hh⟩
   have hat := atL_le lines o.ser
   have hwl : wrL lines o.ser = lines.take (atL lines o.ser) ++ ⟨o.ser, []⟩ :: lines.drop (atL lines o.ser) := by rw [wrL, if_neg (by rw [hh]; simp)]
   have hw : writeS lines floor o = putL (wrL lines o.ser) (atL lines o.ser) o.smp := by
    rw [writeS, if_neg hfl, if_neg (fun h => h16 h.2), putL]
   rw [hw, if_pos hn, if_pos hn]
   simp only [go_sem, mget, mget0, mset, mset0, hbA, hcA, hfl, hh, decide_false, h16', List.append_assoc, List.length_append, List.length_cons, List.length_nil, Nat.zero_add, Nat.reduceAdd]
   have hil : (wrL lines o.ser).length = lines.length + 1 := by
    rw [hwl]
    simp only [List.length_append, List.length_cons, List.length_take, List.length_drop]; omega
   have hB5 : ∀ (r : List AV), (∀ a ∈ r, ∀ q, ltA q a) → ∀ x ∈ M ++ [boxS b vb lines.length c vc dones.length floor, .rows 65 7 0 [opRow o] true, zSh, ansB ⟨0, false, 0⟩, .rows 136 2 0 [r] true], ltB (M ++ [boxS b vb lines.length c vc dones.length floor, .rows 65 7 0 [opRow o] true, zSh, ansB ⟨0, false, 0⟩, .rows 136 2 0 [r] true]).length x := by
    intro r hr
    refine ltM_app hMB ?_
    intro x hx
    simp only [List.mem_cons, List.not_mem_nil, or_false] at hx
    rcases hx with rfl | rfl | rfl | rfl | rfl
    ·simp only [go_sem, ltB, List.length_cons, List.length_nil]
     omega
    ·simp only [go_sem, ltB, opRow]
    ·simp only [go_sem, ltB]
    ·simp only [go_sem, ltB]
    ·intro r' hr' a ha
     obtain rfl := List.mem_singleton.1 hr'
     exact hr a ha _
   have hins := ins_rc (M := M ++ [boxS b vb lines.length c vc dones.length floor, .rows 65 7 0 [opRow o] true, zSh, ansB ⟨0, false, 0⟩, .rows 136 2 0 [cellsUp (Lin.c ⟨o.ser, []⟩) 0 2] true]) (b := b) (c := M.length + 4) (i := atL lines o.ser) (l := rowsL 2 Lin.c lines) (row := cellsUp (Lin.c ⟨o.ser, []⟩) 0 2) F_slices_Insert_api_Line_api_Line ovl_lin (by decide) (by omega) (hbA _) (by rw [mget]; rfl) (by rw [rowsL_len]; exact hat) (by rw [rowsL_len]; omega) (by rw [rowsL_len]; omega) (hB5 _ (fun a ha q => cellsUp_ltA q _ _ _ a ha))
   rw [rowsL_ins, rowsL_len, ← hwl, ← hil] at hins
   have hgh := evo_of_gh (fun m => gh_sub_cell (n := 0) (m := m) (e := fun _ => .any) (M := M ++ [boxS b vb lines.length c vc dones.length floor, .rows 65 7 0 [opRow o] true, zSh, ansB ⟨0, false, 0⟩, .rows 136 2 0 [[.c (.v (.string o.ser)), .c (.v (.slice none 0 0))]] true]) (b := M.length + 4) (i := 0) (j := 1) (.c (.v (.slice none 0 0))) (.c (immL 2 Smp.c [])) (by rw [mget]; rfl) rfl rfl (nil_sub (α := Smp)))
   rw [mset] at hgh
   refine call1 (callR_ghost hgh hins) (by simp only [go_sem]) (fun h => Bool.noConfusion h) ?_
   rw [sa hbl]
   simp only [go_sem, mgetS, mgetS0, msetS, msetS0]
   have hget : (wrL lines o.ser).getD (atL lines o.ser) default = ⟨o.ser, []⟩ := by
    rw [hwl]; exact getD_ins hat
   have ht := wrTail (M1 := M.set b (lnR (vb + 1) (wrL lines o.ser) false)) (b := b) (c := c) (vc := vc) (dl := dones.length) (gb hbl) (by rw [List.length_set]; exact hcl) (ltM_set hMB (rowsL_ltB _ _ _ _ _)) floor o (atL lines o.ser) (by omega) (by omega) (by rw [hget]; exact Nat.zero_le _)
   simp only [List.length_set, List.set_set] at ht
   exact ht _ [_] (by simp only [go_sem]) (by simp only [go_sem]) (by simp only [go_sem]) (by simp only [go_sem]) (by simp only [go_sem])
end Go.Proofs.YtpdcpdngckpgbaaGreat.A
end
section
namespace Go.Proofs.YtpdcpdngckpgbaaGreat.A
open Go Go.Proofs.YtpdcpdngckpgbaaGreatAbs
def bareL (x : Lin) : Bool := decide (x.smps.length = 0)
theorem trim1_rc (x : Lin) (M : List Blk) : CallR Tryz.prog M n_shelf_trim_1 [.agg [.c (.v (.string x.ser)), .c (smpCV x.smps)]] (.b (bareL x)) M := by
 refine callP F_shelf_trim_1 (Nat.le_of_ble_eq_true rfl) (by simp only [go_sem]) (by simp only [go_sem]) ?_ M
 simp only [c_shelf_trim_1, go_sem]
 rw [bareL, Bool.eq_iff_iff]
 simp
def trimF (a : Int) (x : Lin) : Lin := ⟨x.ser, trimS x.smps a⟩
def trimL (lines : List Lin) (a : Int) : List Lin := (lines.map (trimF a)).filter fun x => !bareL x
def trimSh (lines : List Lin) (floor a : Int) : List Lin × Int × Ans := if a < floor then (lines, floor, ⟨9, false, 0⟩) else (trimL lines a, a, ⟨0, false, 0⟩)
def trimK (lines : List Lin) (a : Int) (k : Nat) : List Lin := (lines.take k).map (trimF a) ++ lines.drop k
theorem trimK_len (lines : List Lin) (a : Int) (k : Nat) : (trimK lines a k).length = lines.length := by
 simp only [trimK, List.length_append, List.length_map, List.length_take, List.length_drop]; omega
theorem trimK_get {lines : List Lin} {a : Int} {k : Nat} (h : k < lines.length) : (trimK lines a k).getD k default = lines.getD k default := by
 have h1 : ((lines.take k).map (trimF a)).length = k := by rw [List.length_map, List.length_take]; omega
 rw [trimK, List.getD_eq_getElem?_getD, List.getElem?_append_right (by omega), h1, Nat.sub_self, List.getElem?_drop, Nat.add_zero, List.getD_eq_getElem?_getD]
theorem trimK_set {lines : List Lin} {a : Int} {k : Nat} (h : k < lines.length) : (trimK lines a k).set k (trimF a (lines.getD k default)) = trimK lines a (k + 1) := by
 have h1 : ((lines.take k).map (trimF a)).length = k := by rw [List.length_map, List.length_take]; omega
 rw [trimK, trimK, List.set_append_right _ _ (by omega), h1, Nat.sub_self, take_succ_getD default h, List.map_append, drop_getD default h]
 simp
set_option maxRecDepth 20000 in
theorem trim_rc {M : List Blk} {b vb c vc : Nat} {lines : List Lin} {dl : Nat} {fb : Bool} (hb : M[b]? = some (lnR vb lines fb)) (hcl : c < M.length) (hMB : ∀ x ∈ M, ltB M.length x) (floor a : Int)
  (hll : lines.length ≤ 1000) (hsm : ∀ i, i < lines.length → (lines.getD i default).smps.length ≤ 1000) :
  ∃ v f, CallR Tryz.prog M n_shelf_trim [ownA b vb lines.length c vc dl floor, .i a] (.tup [ownA b v (trimSh lines floor a).1.length c vc dl (trimSh lines floor a).2.1, ansA (trimSh lines floor a).2.2]) (M.set b (lnR v (trimSh lines floor a).1 f)) := by
 have hbl : b < M.length := getElem?_lt hb
 have hbA : ∀ l : List Blk, (M ++ l)[b]? = some (lnR vb lines fb) := fun l => by rw [ga hbl, hb]
 have hend : ∀ (l2 : List Lin) (v : Nat) (f : Bool) (fl : Int) (a : Ans) (e : Nat → SV) (D : List Blk) (X0 : Blk), e 4 = .p (.one (.ptr (M.length + 1) 0 0 0)) → e 5 = .p (.one (.ptr (M.length + 2) 0 0 0)) →
   FinK 40 M.length [.l true 3 4, .l true 3 5] (.tup [ownA b v l2.length c vc dl fl, ansA a]) (M.set b (lnR v l2 f)) .ret ⟨e, M.set b (lnR v l2 f) ++ ([X0, boxS b v l2.length c vc dl fl, ansB a] ++ D)⟩ := by
  intro l2 v f fl a e D X0 h4 h5
  refine fin_m (.inr rfl) (Gh.refl _) _ (qs := [ownA b v l2.length c vc dl fl, ansA a]) (cnd := True ∧ True) ?_ ⟨trivial, trivial⟩ rfl (SubS.refl _) ?_ ?_ ?_
  ·simp only [go_sem, h4, h5, mgetS]
  ·rw [List.length_set]; exact Nat.le_refl _
  ·simp only [go_sem, List.length_set]
   exact ⟨hbl, hcl⟩
  ·exact ltM_set hMB (rowsL_ltB _ _ _ _ _)
 by_cases hfl : a < floor
 ·refine ⟨vb, fb, callR_intro F_shelf_trim (by simp) ?_⟩
  have hw : trimSh lines floor a = (lines, floor, ⟨9, false, 0⟩) := by rw [trimSh, if_pos hfl]
  rw [hw]
  refine run_seqV ?_
  simp only [go_sem, mget, mget0, mset, mset0, List.append_assoc, List.length_append, List.length_cons, List.length_nil, Nat.zero_add, Nat.add_assoc, Nat.reduceAdd]
  refine run_seqV ?_
  simp only [go_sem, mget, mget0, mset, mset0, hfl, decide_true]
  have := hend lines vb fb floor ⟨9, false, 0⟩
  rw [set_self hb] at this ⊢
  exact this _ [] _ (by simp only [go_sem]) (by simp only [go_sem])
 ·refine ⟨vb, false, callR_intro F_shelf_trim (by simp) ?_⟩
  have hw : trimSh lines floor a = (trimL lines a, a, ⟨0, false, 0⟩) := by rw [trimSh, if_neg hfl]
  rw [hw]
  refine run_seqV ?_
  simp only [go_sem, mget, mget0, mset, mset0, List.append_assoc, List.length_append, List.length_cons, List.length_nil, Nat.zero_add, Nat.add_assoc, Nat.reduceAdd]
  refine run_seqV ?_
  simp only [go_sem, mget, mget0, mset, mset0, hfl, decide_false]
  refine run_seqV ?_
  simp only [go_sem, mget, mget0, mset, mset0]
  refine run_seqV ?_
  simp only [go_sem, mget, mget0, mset, mset0, hbA]
  have hMk : ∀ k, ∀ x ∈ M.set b (lnR vb (trimK lines a k) fb) ++ [boxS b vb lines.length c vc dl a, zSh, ansB ⟨0, false, 0⟩], ltB (M.set b (lnR vb (trimK lines a k) fb) ++ [boxS b vb lines.length c vc dl a, zSh, ansB ⟨0, false, 0⟩]).length x := by
   intro k
   refine ltM_app (ltM_set hMB (rowsL_ltB _ _ _ _ _)) ?_
   intro x hx
   simp only [List.mem_cons, List.not_mem_nil, or_false] at hx
   rw [List.length_set]
   rcases hx with rfl | rfl | rfl
   ·simp only [go_sem, ltB, List.length_cons, List.length_nil]
    omega
   ·simp only [go_sem, ltB]
   ·simp only [go_sem, ltB]
  refine R_loop (ι := Nat) (J := fun k => k ≤ lines.length)
   (env := fun k => [(1, .i a), (2, .p (.one (.ptr M.length 0 0 0))), (4, .p (.one (.ptr (M.length + 1) 0 0 0))), (5, .p (.one (.ptr (M.length + 2) 0 0 0))), (17, .p (.one (.arr 2 b vb 0 lines.length))), (18, .i lines.length), (19, .i k)])
   (mem := fun k => M.set b (lnR vb (trimK lines a k) fb) ++ [boxS b vb lines.length c vc dl a, zSh, ansB ⟨0, false, 0⟩])
   (μ := fun k => lines.length - k) 0 (Nat.zero_le _) ⟨[], ?_, ?_, ?_, hMk 0⟩ ?_
  ·have : trimK lines a 0 = lines := by simp [trimK]
   rw [this, set_self hb, List.append_nil]
  ·rw [List.length_append, List.length_set]; omega
  ·simp only [go_sem, List.length_append, List.length_cons, List.length_nil, List.length_set]
   omega
  rintro k hk
  have hbK : ∀ l : List Blk, (M.set b (lnR vb (trimK lines a k) fb) ++ l)[b]? = some (lnR vb (trimK lines a k) fb) := fun l => by rw [ga (by rw [List.length_set]; exact hbl), gb hbl]
  have hsK : ∀ (l : List Blk) (X : Blk), (M.set b (lnR vb (trimK lines a k) fb) ++ l).set b X = M.set b X ++ l := fun l X => by rw [sa (by rw [List.length_set]; exact hbl), List.set_set]
  refine run_seqV ?_
  simp only [go_sem]
  refine run_seqV ?_
  simp only [go_sem]
  refine ⟨fun h1 => ?_, fun h1 => ?_⟩
  ·have hrow := rowsL_getD (sz := 2) (c := Lin.c) (l := trimK lines a k) (i := k) (by rw [trimK_len]; exact h1)
   rw [trimK_get h1] at hrow
   have hset := rowsL_set (sz := 2) (c := Lin.c) (trimK lines a k) k (trimF a (lines.getD k default))
   rw [trimK_set h1] at hset
   simp only [go_sem, trimF] at hrow hset
   have hs1 := hsm k h1
   have hkl := trimK_len lines a k
   refine run_seq ?_
   refine run_block ?_
   refine run_seqV ?_
   simp only [go_sem, mgetS, mgetS0, msetS, msetS0, hbK, hrow, hkl, List.append_assoc, List.length_append, List.length_cons, List.length_nil, List.length_set, Nat.zero_add, Nat.add_assoc, Nat.reduceAdd]
   refine ⟨by omega, h1, V_sound ?_⟩
   simp only [go_sem, mgetS, mgetS0, msetS, msetS0, hbK]
   refine call0 (Trim_rc (lines.getD k default).smps (by omega) a) ?_
   simp only [go_sem, mgetS, mgetS0, msetS, msetS0, hbK, hsK, hrow, hset, hkl]
   refine ⟨by omega, h1, h1, V_sound ?_⟩
   simp only [go_sem, w64s (show k < 9223372036854775807 by omega)]
   refine ⟨k + 1, h1, by omega, [_], by simp only [List.append_assoc, List.cons_append, List.nil_append]; rfl, ?_, ?_, hMk (k + 1)⟩
   ·rw [List.length_append, List.length_set]; omega
   ·simp only [go_sem, List.length_append, List.length_cons, List.length_nil, List.length_set]
    omega
  ·have hkl : k = lines.length := by omega
   subst hkl
   have hmap : trimK lines a lines.length = lines.map (trimF a) := by rw [trimK, List.take_length, List.drop_length, List.append_nil]
   have hM1 := hMk lines.length
   rw [hmap] at hbK hsK hM1 ⊢
   have hlm : (lines.map (trimF a)).length = lines.length := List.length_map ..
   have hd := delf_rc (P := Tryz.prog) (p := bareL) F_slices_DeleteFunc_api_Line_api_Line F_slices_IndexFunc_api_Line_api_Line rfl (by decide) (c := Lin.c) (b := b) (v := vb) (fb := fb) (l := lines.map (trimF a)) (M := M.set b (lnR vb (lines.map (trimF a)) fb) ++ [boxS b vb lines.length c vc dl a, zSh, ansB ⟨0, false, 0⟩]) (hbK _) (by omega) hM1 n_shelf_trim_1 0 (fun _ => default) (fun i hi => absurd hi (Nat.not_lt_zero _)) (fun i hi M => trim1_rc ((lines.map (trimF a)).getD i default) M)
   rw [hlm, hsK] at hd
   refine run_seqV ?_
   simp only [go_sem, mgetS, mgetS0, msetS, msetS0]
   refine call1 hd (by simp only [go_sem]) (fun h => Bool.noConfusion h) ?_
   simp only [go_sem, mgetS, mgetS0, msetS, msetS0]
   refine V_sound ?_
   simp only [go_sem, mgetS, mgetS0, msetS, msetS0]
   exact hend (trimL lines a) vb false a ⟨0, false, 0⟩ _ [] _ (by simp only [go_sem]) (by simp only [go_sem])
end Go.Proofs.YtpdcpdngckpgbaaGreat.A
end
section
namespace Go.Proofs.YtpdcpdngckpgbaaGreat.A
open Go Go.Proofs.YtpdcpdngckpgbaaGreatAbs
def hasL (s : Shf) (k : ByteArray) : List Smp := if hitL s.lines k = true then (s.lines.getD (atL s.lines k) default).smps else []
def lookS (s : Shf) (o : Opn) : Ans := if o.kind = 4 then ⟨0, (getS (hasL s o.ser) o.frm).2, (getS (hasL s o.ser) o.frm).1.v⟩ else ⟨0, (totS o.tot (rangeS (hasL s o.ser) o.frm o.to)).2, (totS o.tot (rangeS (hasL s o.ser) o.frm o.to)).1⟩
theorem rangeS_len (l : List Smp) (a b : Int) : (rangeS l a b).length ≤ l.length := by
 unfold rangeS
 split
 ·rw [List.length_take, List.length_drop]; omega
 ·exact Nat.zero_le _
set_option maxRecDepth 20000 in
theorem look_rc (s : Shf) (hz : zShf s) (o : Opn) (M : List Blk) : CallR Tryz.prog M n_shelf_look [shfA s, opnA o] (.p (ansA (lookS s o))) M := by
 refine callPG F_shelf_look (Nat.le_of_ble_eq_true rfl) (by simp only [go_sem]) ?_ M
 obtain ⟨lines, dones, floor⟩ := s
 obtain ⟨hll, hdl, hser, hsmp⟩ := hz
 simp only at hll hdl hser hsmp ⊢
 have hend : ∀ (a : Ans) (e : Nat → SV) (X0 X1 : Blk) (D : List Blk), e 4 = .p (.one (.ptr 2 0 0 0)) → FinK 55 0 [.l true 3 4] (.p (ansA a)) [] .ret ⟨e, X0 :: X1 :: ansB a :: D⟩ := by
  intro a e X0 X1 D h4
  exact fin0 (.inr rfl) (qs := [ansA a]) (cnd := True) (by simp only [go_sem, h4]) trivial (SubS.refl _) (by simp only [go_sem])
 have hsz : (hasL ⟨lines, dones, floor⟩ o.ser).length ≤ 1000 := by
  unfold hasL
  split
  ·exact hsmp _ (hitL_lt (by assumption))
  ·exact Nat.zero_le _
 refine run_seqV ?_
 simp only [go_sem]
 refine run_seqV ?_
 simp only [go_sem]
 refine run_join [(3, .p (.one (.ptr 1 0 0 0))), (4, .p (.one (.ptr 2 0 0 0))), (5, .p (smpL (hasL ⟨lines, dones, floor⟩ o.ser)))] [.rows 77 3 0 [[.c (immL 2 Lin.c lines), .c (immL 5 Dn.c dones), .c (.v (.int .i64 floor))]] true, .rows 65 7 0 [opRow o] true, ansB ⟨0, false, 0⟩] (V_sound ?_) ?_
 ·simp only [go_sem]
  refine call0 (line_rc ⟨lines, dones, floor⟩ (by simp only; omega) o.ser) ?_
  simp only [go_sem, opRow]
  refine ⟨fun h => ⟨by have := hitL_lt h; omega, [], ?_⟩, fun h => ⟨[], ?_⟩⟩
  ·simp only [go_sem, hasL, h, ltB]
  ·simp only [go_sem, hasL, h, ltB, List.length_nil]
 unfold lookS
 generalize hasL ⟨lines, dones, floor⟩ o.ser = H at hsz ⊢
 have hr := rangeS_len H o.frm o.to
 refine run_seqV ?_
 simp only [go_sem, opRow]
 refine ⟨fun k4 => ?_, fun k4 => ?_⟩
 ·rw [if_pos k4]
  refine call0 (Get_rc H (by omega) o.frm) ?_
  simp only [go_sem]
  exact hend ⟨0, (getS H o.frm).2, (getS H o.frm).1.v⟩ _ _ _ [_] (by simp only [go_sem])
 ·rw [if_neg k4]
  refine run_seqV ?_
  simp only [go_sem]
  refine call0 (Range_rc H (by omega) o.frm o.to) ?_
  simp only [go_sem]
  refine call0 (Of_rc o.tot (rangeS H o.frm o.to) (by omega)) ?_
  simp only [go_sem]
  refine V_sound ?_
  simp only [go_sem]
  exact hend ⟨0, (totS o.tot (rangeS H o.frm o.to)).2, (totS o.tot (rangeS H o.frm o.to)).1⟩ _ _ _ [] (by simp only [go_sem])
def doOp (s : Shf) (o : Opn) : Shf × Ans :=
 if opOk o = false then (s, ⟨1, false, 0⟩)
 else if o.kind = 1 then (⟨(writeS s.lines s.floor o).1, s.dones, s.floor⟩, (writeS s.lines s.floor o).2)
 else if o.kind = 2 then (⟨(trimSh s.lines s.floor o.frm).1, s.dones, (trimSh s.lines s.floor o.frm).2.1⟩, (trimSh s.lines s.floor o.frm).2.2)
 else (s, lookS s o)
set_option maxRecDepth 20000 in
theorem do_rc {M : List Blk} {b vb c vc : Nat} {s : Shf} {fb fc : Bool} (hbc : b ≠ c) (hb : M[b]? = some (lnR vb s.lines fb)) (hc : M[c]? = some (dnR vc s.dones fc)) (hMB : ∀ x ∈ M, ltB M.length x) (hz : zShf s) (o : Opn) (ho : o.ser.size ≤ 2000) :
  ∃ v f, CallR Tryz.prog M n_shelf_do [ownA b vb s.lines.length c vc s.dones.length s.floor, opnA o] (.tup [ownA b v (doOp s o).1.lines.length c vc (doOp s o).1.dones.length (doOp s o).1.floor, ansA (doOp s o).2]) (M.set b (lnR v (doOp s o).1.lines f)) := by
 have hbl : b < M.length := getElem?_lt hb
 have hcl : c < M.length := getElem?_lt hc
 have hbA : ∀ l : List Blk, (M ++ l)[b]? = some (lnR vb s.lines fb) := fun l => by rw [ga hbl, hb]
 have hcA : ∀ l : List Blk, (M ++ l)[c]? = some (dnR vc s.dones fc) := fun l => by rw [ga hcl, hc]
 obtain ⟨lines, dones, floor⟩ := s
 simp only at hb hc hbA hcA ⊢
 have hB4 : ∀ x ∈ M ++ [boxS b vb lines.length c vc dones.length floor, .rows 65 7 0 [opRow o] true, zSh, ansB ⟨0, false, 0⟩], ltB (M ++ [boxS b vb lines.length c vc dones.length floor, .rows 65 7 0 [opRow o] true, zSh, ansB ⟨0, false, 0⟩]).length x := by
  refine ltM_app hMB ?_
  intro x hx
  simp only [List.mem_cons, List.not_mem_nil, or_false] at hx
  rcases hx with rfl | rfl | rfl | rfl
  ·simp only [go_sem, ltB, List.length_cons, List.length_nil]
   omega
  ·simp only [go_sem, ltB, opRow]
  ·simp only [go_sem, ltB]
  ·simp only [go_sem, ltB]
 have hsame : ∀ (a : Ans) (e : Nat → SV) (D : List Blk) (X0 X1 : Blk), e 4 = .p (.one (.ptr (M.length + 2) 0 0 0)) → e 5 = .p (.one (.ptr (M.length + 3) 0 0 0)) →
   FinK 35 M.length [.l true 3 4, .l true 3 5] (.tup [ownA b vb lines.length c vc dones.length floor, ansA a]) (M.set b (lnR vb lines fb)) .ret ⟨e, M ++ ([X0, X1, boxS b vb lines.length c vc dones.length floor, ansB a] ++ D)⟩ := by
  intro a e D X0 X1 h4 h5
  have := endSA (n := 35) (v := vb) (l2 := lines) (f := fb) hbl hcl hMB floor a (dl := dones.length) (vc := vc) e D X0 X1 h4 h5
  rwa [set_self hb] at this ⊢
 obtain ⟨hll, hdl, hser, hsmp⟩ := hz
 simp only at hll hdl hser hsmp
 cases hok : opOk o with
 | false =>
  have hw : doOp ⟨lines, dones, floor⟩ o = (⟨lines, dones, floor⟩, ⟨1, false, 0⟩) := by rw [doOp, if_pos hok]
  refine ⟨vb, fb, callR_intro F_shelf_do (by simp) ?_⟩
  rw [hw]
  refine run_seqV ?_
  simp only [go_sem, mget, mget0, mset, mset0, List.append_assoc, List.length_append, List.length_cons, List.length_nil, Nat.zero_add, Nat.add_assoc, Nat.reduceAdd]
  refine run_seqV ?_
  simp only [go_sem, mget, mget0, mset, mset0]
  refine call0 (CheckOp_rc o ho) ?_
  simp only [go_sem, mget, mget0, mset, mset0, hok]
  exact hsame ⟨1, false, 0⟩ _ [] _ _ (by simp only [go_sem]) (by simp only [go_sem])
 | true =>
  have hnok : ¬ opOk o = false := by rw [hok]; simp
  obtain ⟨kind, ser, smp, frm, to, tot⟩ := o
  simp only at ho
  by_cases k1 : kind = 1
  ·subst k1
   have hw : doOp ⟨lines, dones, floor⟩ ⟨1, ser, smp, frm, to, tot⟩ = (⟨(writeS lines floor ⟨1, ser, smp, frm, to, tot⟩).1, dones, floor⟩, (writeS lines floor ⟨1, ser, smp, frm, to, tot⟩).2) := by rw [doOp, if_neg hnok, if_pos rfl]
   obtain ⟨v, f, hwr⟩ := write_rc (M := M ++ [boxS b vb lines.length c vc dones.length floor, .rows 65 7 0 [opRow ⟨1, ser, smp, frm, to, tot⟩] true, zSh, ansB ⟨0, false, 0⟩]) hbc (hbA _) (hcA _) hB4 floor ⟨1, ser, smp, frm, to, tot⟩ hll hdl hsmp
   refine ⟨v, f, callR_intro F_shelf_do (by simp) ?_⟩
   rw [hw]
   rw [sa hbl] at hwr
   have he := endSA (n := 35) (v := v) (l2 := (writeS lines floor ⟨1, ser, smp, frm, to, tot⟩).1) (f := f) hbl hcl hMB floor (writeS lines floor ⟨1, ser, smp, frm, to, tot⟩).2 (dl := dones.length) (vc := vc)
   generalize writeS lines floor ⟨1, ser, smp, frm, to, tot⟩ = W at hwr he ⊢
   refine run_seqV ?_
   simp only [go_sem, mget, mget0, mset, mset0, List.append_assoc, List.length_append, List.length_cons, List.length_nil, Nat.zero_add, Nat.add_assoc, Nat.reduceAdd]
   refine run_seqV ?_
   simp only [go_sem, mget, mget0, mset, mset0]
   refine call0 (CheckOp_rc ⟨1, ser, smp, frm, to, tot⟩ ho) ?_
   simp only [go_sem, mget, mget0, mset, mset0, hok]
   refine run_seqV ?_
   simp only [go_sem, mget, mget0, mset, mset0]
   refine call1 hwr (by simp only [go_sem]) (fun h => Bool.noConfusion h) ?_
   simp only [go_sem, mgetS, mgetS0, msetS, msetS0]
   exact he _ [] _ _ (by simp only [go_sem]) (by simp only [go_sem])
  by_cases k2 : kind = 2
  ·subst k2
   have hw : doOp ⟨lines, dones, floor⟩ ⟨2, ser, smp, frm, to, tot⟩ = (⟨(trimSh lines floor frm).1, dones, (trimSh lines floor frm).2.1⟩, (trimSh lines floor frm).2.2) := by rw [doOp, if_neg hnok, if_neg (show ¬ (2 : Int) = 1 by decide), if_pos rfl]
   obtain ⟨v, f, hwr⟩ := trim_rc (M := M ++ [boxS b vb lines.length c vc dones.length floor, .rows 65 7 0 [opRow ⟨2, ser, smp, frm, to, tot⟩] true, zSh, ansB ⟨0, false, 0⟩]) (c := c) (vc := vc) (dl := dones.length) (hbA _) (by rw [List.length_append]; omega) hB4 floor frm hll hsmp
   refine ⟨v, f, callR_intro F_shelf_do (by simp) ?_⟩
   rw [hw]
   rw [sa hbl] at hwr
   have he := endSA (n := 35) (v := v) (l2 := (trimSh lines floor frm).1) (f := f) hbl hcl hMB (trimSh lines floor frm).2.1 (trimSh lines floor frm).2.2 (dl := dones.length) (vc := vc)
   generalize trimSh lines floor frm = W at hwr he ⊢
   refine run_seqV ?_
   simp only [go_sem, mget, mget0, mset, mset0, List.append_assoc, List.length_append, List.length_cons, List.length_nil, Nat.zero_add, Nat.add_assoc, Nat.reduceAdd]
   refine run_seqV ?_
   simp only [go_sem, mget, mget0, mset, mset0]
   refine call0 (CheckOp_rc ⟨2, ser, smp, frm, to, tot⟩ ho) ?_
   simp only [go_sem, mget, mget0, mset, mset0, hok]
   refine run_seqV ?_
   simp only [go_sem, mget, mget0, mset, mset0]
   refine call1 hwr (by simp only [go_sem]) (fun h => Bool.noConfusion h) ?_
   simp only [go_sem, mgetS, mgetS0, msetS, msetS0]
   exact he _ [] _ _ (by simp only [go_sem]) (by simp only [go_sem])
  ·have hw : doOp ⟨lines, dones, floor⟩ ⟨kind, ser, smp, frm, to, tot⟩ = (⟨lines, dones, floor⟩, lookS ⟨lines, dones, floor⟩ ⟨kind, ser, smp, frm, to, tot⟩) := by rw [doOp, if_neg hnok, if_neg k1, if_neg k2]
   refine ⟨vb, fb, callR_intro F_shelf_do (by simp) ?_⟩
   rw [hw]
   refine run_seqV ?_
   simp only [go_sem, mget, mget0, mset, mset0, List.append_assoc, List.length_append, List.length_cons, List.length_nil, Nat.zero_add, Nat.add_assoc, Nat.reduceAdd]
   refine run_seqV ?_
   simp only [go_sem, mget, mget0, mset, mset0]
   refine call0 (CheckOp_rc ⟨kind, ser, smp, frm, to, tot⟩ ho) ?_
   simp only [go_sem, mget, mget0, mset, mset0, hok]
   refine run_seqV ?_
   simp only [go_sem, mget, mget0, mset, mset0, k1, k2]
   refine V_sound ?_
   simp only [go_sem, mget, mget0, mset, mset0]
   refine callL (look_rc ⟨lines, dones, floor⟩ ⟨hll, hdl, hser, hsmp⟩ ⟨kind, ser, smp, frm, to, tot⟩ []) ⟨snap_shf (hbA _) (hcA _) floor, ⟨rfl, ?_⟩, trivial⟩ (by simp only [go_sem]) ?_
   ·intro k a a' h h'
    rw [h] at h'
    injection h' with h'
    subst h'
    refine Snap.same _ ?_
    have := List.mem_of_getElem? h
    simp only [List.mem_cons, List.not_mem_nil, or_false] at this
    rcases this with rfl | rfl | rfl | rfl | rfl | rfl | rfl <;> trivial
   simp only [go_sem, mget, mget0, mset, mset0]
   exact hsame _ _ [] _ _ (by simp only [go_sem]) (by simp only [go_sem])
end Go.Proofs.YtpdcpdngckpgbaaGreat.A
end
section
namespace Go.Proofs.YtpdcpdngckpgbaaGreat.A
open Go Go.Proofs.YtpdcpdngckpgbaaGreatAbs
theorem ovl_dn : Ovl Tryz.prog 199 5 := ⟨⟨_, 75, 4, 130, Tryz.func199, by kernel_rfl, by kernel_rfl, by kernel_rfl, by kernel_rfl, by kernel_rfl, by kernel_rfl⟩⟩
abbrev dnCells (x : Dn) : List AV := [.c (.v (.int .i64 x.client)), .c (.v (.int .i64 x.id)), .c (.v (.int .i64 x.ans.code)), .c (.v (.bool x.ans.has)), .c (.v (.int .i64 x.ans.n))]
abbrev dnA (x : Dn) : Pt := .agg (dnCells x)
theorem done1_rc (x : Dn) (k : Int) (M : List Blk) : CallR Tryz.prog M n_shelf_done_1 [dnA x, .i k] (.i (cmpI x.client k)) M := by
 refine callP F_shelf_done_1 (Nat.le_of_ble_eq_true rfl) (by simp only [go_sem]) (by simp only [go_sem]) ?_ M
 simp only [c_shelf_done_1, go_sem]
 refine call0 (CompareI_rc _ _) ?_
 simp only [go_sem]
def atD (l : List Dn) (k : Int) : Nat := bsF (fun i => decide (cmpI (l.getD i default).client k < 0)) 0 l.length
def hitD (l : List Dn) (k : Int) : Bool := decide (atD l k < l.length) && (cmpI (l.getD (atD l k) default).client k == 0)
theorem atD_le (l : List Dn) (k : Int) : atD l k ≤ l.length := (bsF_le l.length 0 l.length (by omega) (Nat.zero_le _)).2
theorem hitD_lt {l : List Dn} {k : Int} (h : hitD l k = true) : atD l k < l.length := by
 unfold hitD at h
 exact of_decide_eq_true (Bool.and_eq_true_iff.1 h).1
theorem bsD_rc (l : List Dn) (hl : l.length ≤ 140737488355328) (k : Int) (M : List Blk) : CallR Tryz.prog M n_slices_BinarySearchFunc_api_Done_api_Done_int [dnL l, .i k, .one (.fn n_shelf_done_1 0 fun _ => default)] (.tup [.i (atD l k : Nat), .b (hitD l k)]) M :=
 bs_rc F_slices_BinarySearchFunc_api_Done_api_Done_int l.length (by omega) (fun i j => (l.getD i default).c j) (.i k) n_shelf_done_1 0 (fun _ => default) (fun i => cmpI (l.getD i default).client k) (by simp only [go_sem]) (fun i hi => absurd hi (Nat.not_lt_zero _)) (fun i hi M => done1_rc (l.getD i default) k M) M
def evN (l : List Dn) (c : Int) : Nat → Int
 | 0 => -1
 | i + 1 => if (l.getD i default).client ≠ c ∧ (evN l c i < 0 ∨ (l.getD i default).id < (l.getD (evN l c i).toNat default).id) then (i : Int) else evN l c i
theorem evN_lt (l : List Dn) (c : Int) : ∀ k, -1 ≤ evN l c k ∧ evN l c k < k
 | 0 => by simp [evN]
 | k + 1 => by
  have := evN_lt l c k
  rw [evN]
  split <;> omega
def insD (l : List Dn) (d : Dn) : List Dn := l.take (atD l d.client) ++ d :: l.drop (atD l d.client)
def doneS (l : List Dn) (d : Dn) : List Dn :=
 if hitD l d.client = true then l.set (atD l d.client) d
 else if (insD l d).length ≤ 8 then insD l d
 else (insD l d).take (evN (insD l d) d.client (insD l d).length).toNat ++ (insD l d).drop ((evN (insD l d) d.client (insD l d).length).toNat + 1)
theorem insD_len (l : List Dn) (d : Dn) : (insD l d).length = l.length + 1 := by
 have := atD_le l d.client
 rw [insD]
 simp only [List.length_append, List.length_cons, List.length_take, List.length_drop]; omega
set_option maxRecDepth 20000 in
theorem done_rc {M : List Blk} {b vb ll c vc : Nat} {dones : List Dn} {fc : Bool} (hbl : b < M.length) (hc : M[c]? = some (dnR vc dones fc)) (hMB : ∀ x ∈ M, ltB M.length x) (floor : Int) (d : Dn) (hdl : dones.length ≤ 1000) (hev : 8 < (insD dones d).length → 0 ≤ evN (insD dones d) d.client (insD dones d).length) :
  ∃ v f, CallR Tryz.prog M n_shelf_done [ownA b vb ll c vc dones.length floor, dnA d] (.p (ownA b vb ll c v (doneS dones d).length floor)) (M.set c (dnR v (doneS dones d) f)) := by
 have hcl : c < M.length := getElem?_lt hc
 have hcA : ∀ l : List Blk, (M ++ l)[c]? = some (dnR vc dones fc) := fun l => by rw [ga hcl, hc]
 have hsA : ∀ (l : List Blk) (X : Blk), (M ++ l).set c X = M.set c X ++ l := fun l X => sa hcl
 have hend : ∀ (l2 : List Dn) (v : Nat) (f : Bool) (e : Nat → SV) (D : List Blk) (X0 X1 : Blk), e 4 = .p (.one (.ptr (M.length + 2) 0 0 0)) →
   FinK 74 M.length [.l true 3 4] (.p (ownA b vb ll c v l2.length floor)) (M.set c (dnR v l2 f)) .ret ⟨e, M.set c (dnR v l2 f) ++ ([X0, X1, boxS b vb ll c v l2.length floor] ++ D)⟩ := by
  intro l2 v f e D X0 X1 h4
  refine fin_m (.inr rfl) (Gh.refl _) _ (qs := [ownA b vb ll c v l2.length floor]) (cnd := True) ?_ trivial rfl (SubS.refl _) ?_ ?_ ?_
  ·simp only [go_sem, h4, mgetS]
  ·rw [List.length_set]; exact Nat.le_refl _
  ·simp only [go_sem, List.length_set]
   exact ⟨hbl, hcl⟩
  ·exact ltM_set hMB (rowsL_ltB _ _ _ _ _)
 have hsz : dones.length ≤ 140737488355328 := by omega
 cases hh : hitD dones d.client with
 | true =>
  refine ⟨vc, fc, callR_intro F_shelf_done (by simp) ?_⟩
  have hi := hitD_lt hh
  have hw : doneS dones d = dones.set (atD dones d.client) d := by rw [doneS, if_pos hh]
  have hlen : (doneS dones d).length = dones.length := by rw [hw, List.length_set]
  have hrow := rowsL_getD (sz := 5) (c := Dn.c) hi
  have hset := rowsL_set (sz := 5) (c := Dn.c) dones (atD dones d.client) d
  rw [← hw] at hset
  simp only [go_sem] at hrow hset
  refine run_seqV ?_
  simp only [go_sem, mget, mget0, mset, mset0, List.append_assoc, List.length_append, List.length_cons, List.length_nil, Nat.zero_add, Nat.add_assoc, Nat.reduceAdd]
  refine run_seqV ?_
  simp only [go_sem, mget, mget0, mset, mset0]
  refine callL (bsD_rc dones hsz d.client []) ⟨snapL dones (hcA _), Snap.same _ trivial, Snap.same _ (fun i hi => absurd hi (Nat.not_lt_zero _)), trivial⟩ (by simp only [go_sem]) ?_
  simp only [go_sem, mget, mget0, mset, mset0, hh]
  refine run_seqV ?_
  simp only [go_sem, mget, mget0, mset, mset0, hcA, hsA, hrow, hset, msetS, msetS0, mgetS, mgetS0]
  have he := hend (doneS dones d) vc fc
  rw [hlen] at he ⊢
  refine ⟨by omega, hi, ?_⟩
  exact he _ [] _ _ (by simp only [go_sem])
 | false =>
  have hat := atD_le dones d.client
  have hil := insD_len dones d
  have hB4 : ∀ x ∈ M ++ [boxS b vb ll c vc dones.length floor, .rows 130 5 0 [dnCells d] true, zSh, .rows 130 5 0 [dnCells d] true], ltB (M ++ [boxS b vb ll c vc dones.length floor, .rows 130 5 0 [dnCells d] true, zSh, .rows 130 5 0 [dnCells d] true]).length x := by
   refine ltM_app hMB ?_
   intro x hx
   simp only [List.mem_cons, List.not_mem_nil, or_false] at hx
   rcases hx with rfl | rfl | rfl | rfl
   ·simp only [go_sem, ltB, List.length_cons, List.length_nil]
    omega
   ·simp only [go_sem, ltB]
   ·simp only [go_sem, ltB]
   ·simp only [go_sem, ltB]
  have hins := ins_rc (M := M ++ [boxS b vb ll c vc dones.length floor, .rows 130 5 0 [dnCells d] true, zSh, .rows 130 5 0 [dnCells d] true]) (b := c) (c := M.length + 3) (i := atD dones d.client) (l := rowsL 5 Dn.c dones) (row := cellsUp (Dn.c d) 0 5) F_slices_Insert_api_Done_api_Done ovl_dn (by decide) (by omega) (hcA _) (by rw [mget]; rfl) (by rw [rowsL_len]; exact hat) (by rw [rowsL_len]; omega) (by rw [rowsL_len]; omega) hB4
  rw [rowsL_ins, rowsL_len, show dones.take (atD dones d.client) ++ d :: dones.drop (atD dones d.client) = insD dones d from rfl, ← hil, hsA] at hins
  generalize hI : insD dones d = L at hins hil hev
  have hgA : ∀ l : List Blk, (M.set c (dnR (vc + 1) L false) ++ l)[c]? = some (dnR (vc + 1) L false) := fun l => by rw [ga (by rw [List.length_set]; exact hcl), gb hcl]
  have hgS : ∀ (l : List Blk) (X : Blk), (M.set c (dnR (vc + 1) L false) ++ l).set c X = M.set c X ++ l := fun l X => by rw [sa (by rw [List.length_set]; exact hcl), List.set_set]
  refine ⟨vc + 1, false, callR_intro F_shelf_done (by simp) ?_⟩
  refine run_seqV ?_
  simp only [go_sem, mget, mget0, mset, mset0, List.append_assoc, List.length_append, List.length_cons, List.length_nil, Nat.zero_add, Nat.add_assoc, Nat.reduceAdd]
  refine run_seqV ?_
  simp only [go_sem, mget, mget0, mset, mset0]
  refine callL (bsD_rc dones hsz d.client []) ⟨snapL dones (hcA _), Snap.same _ trivial, Snap.same _ (fun i hi => absurd hi (Nat.not_lt_zero _)), trivial⟩ (by simp only [go_sem]) ?_
  simp only [go_sem, mget, mget0, mset, mset0, hh]
  refine run_seqV ?_
  simp only [go_sem, mget, mget0, mset, mset0]
  refine run_seqV ?_
  simp only [go_sem, mget, mget0, mset, mset0, List.append_assoc, List.length_append, List.length_cons, List.length_nil, Nat.zero_add, Nat.add_assoc, Nat.reduceAdd]
  refine call1 hins (by simp only [go_sem]) (fun h => Bool.noConfusion h) ?_
  simp only [go_sem, msetS, msetS0, mgetS, mgetS0]
  by_cases h8 : L.length ≤ 8
  ·have hw : doneS dones d = L := by rw [doneS, if_neg (by rw [hh]; simp), hI, if_pos h8]
   rw [hw]
   have h8' : (8 < (L.length : Int)) = False := by simp only [eq_iff_iff, iff_false]; omega
   refine run_seqV ?_
   simp only [go_sem, msetS, msetS0, mgetS, mgetS0, hgA, h8', decide_false]
   refine V_sound ?_
   simp only [go_sem, msetS, msetS0, mgetS, mgetS0, hgA]
   have he := hend L (vc + 1) false
   exact he _ [_] _ _ (by simp only [go_sem])
  ·have h8' : (8 < (L.length : Int)) = True := eq_true (by omega)
   have hev := hev (by omega)
   have hevl := (evN_lt L d.client L.length).2
   have hw : doneS dones d = L.take (evN L d.client L.length).toNat ++ L.drop ((evN L d.client L.length).toNat + 1) := by rw [doneS, if_neg (by rw [hh]; simp), hI, if_neg h8]
   have hBm : ∀ x ∈ M.set c (dnR (vc + 1) L false) ++ [boxS b vb ll c (vc + 1) L.length floor, .rows 130 5 0 [dnCells d] true, zSh, .rows 130 5 0 [dnCells d] true], ltB (M.set c (dnR (vc + 1) L false) ++ [boxS b vb ll c (vc + 1) L.length floor, .rows 130 5 0 [dnCells d] true, zSh, .rows 130 5 0 [dnCells d] true]).length x := by
    refine ltM_app (ltM_set hMB (rowsL_ltB _ _ _ _ _)) ?_
    intro x hx
    simp only [List.mem_cons, List.not_mem_nil, or_false] at hx
    rw [List.length_set]
    rcases hx with rfl | rfl | rfl | rfl
    ·simp only [go_sem, ltB, List.length_cons, List.length_nil]
     omega
    ·simp only [go_sem, ltB]
    ·simp only [go_sem, ltB]
    ·simp only [go_sem, ltB]
   refine run_join [(2, .p (.one (.ptr M.length 0 0 0))), (4, .p (.one (.ptr (M.length + 2) 0 0 0)))] (M.set c (dnR (vc + 1) (doneS dones d) false) ++ [boxS b vb ll c (vc + 1) (doneS dones d).length floor, .rows 130 5 0 [dnCells d] true, zSh, .rows 130 5 0 [dnCells d] true]) ?_ ?_
   ·refine run_seqV ?_
    simp only [go_sem, msetS, msetS0, mgetS, mgetS0, hgA, h8', decide_true]
    refine run_cond (t := true) (by simp only [go_sem]) (fun _ => ?_) (fun h => by cases h)
    refine run_seqV ?_
    simp only [go_sem]
    refine run_seqV ?_
    simp only [go_sem, msetS, msetS0, mgetS, mgetS0, hgA]
    refine R_loop (ι := Nat) (J := fun k => k ≤ L.length)
     (env := fun k => [(2, .p (.one (.ptr M.length 0 0 0))), (3, .p (.one (.ptr (M.length + 1) 0 0 0))), (4, .p (.one (.ptr (M.length + 2) 0 0 0))), (7, .i (evN L d.client k)), (37, .p (.one (.arr 5 c (vc + 1) 0 L.length))), (38, .i L.length), (39, .i k)])
     (mem := fun _ => M.set c (dnR (vc + 1) L false) ++ [boxS b vb ll c (vc + 1) L.length floor, .rows 130 5 0 [dnCells d] true, zSh, .rows 130 5 0 [dnCells d] true])
     (μ := fun k => L.length - k) 0 (Nat.zero_le _) ⟨[], ?_, ?_, ?_, hBm⟩ ?_
    ·simp only [List.append_nil]
    ·rw [List.length_append, List.length_set]; omega
    ·simp only [go_sem, List.length_append, List.length_cons, List.length_nil, List.length_set, evN]
     omega
    rintro k hk
    refine run_seqV ?_
    simp only [go_sem]
    refine run_seqV ?_
    simp only [go_sem]
    refine ⟨fun h1 => ?_, fun h1 => ?_⟩
    ·have hrow := rowsL_getD (sz := 5) (c := Dn.c) h1
     have hb1 := evN_lt L d.client k
     have hrow2 := rowsL_getD (sz := 5) (c := Dn.c) (l := L) (i := (evN L d.client k).toNat) (by omega)
     simp only [go_sem] at hrow hrow2
     have e3 : IntKind.i64.wrap ((k : Int) + 1) = ((k + 1 : Nat) : Int) := w64s (by omega)
     refine run_seq ?_
     refine run_block ?_
     refine run_seqV ?_
     simp only [go_sem, msetS, msetS0, mgetS, mgetS0, hgA, hrow, List.append_assoc, List.length_append, List.length_cons, List.length_nil, List.length_set, Nat.zero_add, Nat.add_assoc, Nat.reduceAdd]
     refine ⟨by omega, h1, ?_⟩
     refine V_sound ?_
     simp only [go_sem, msetS, msetS0, mgetS, mgetS0, hgA, hrow2]
     have hg : ∀ {X : Prop}, (((L.getD k default).client != d.client && !decide (evN L d.client k < 0)) = true → X) ↔ (((L.getD k default).client ≠ d.client ∧ 0 ≤ evN L d.client k) → X) := by
      intro X
      simp only [Bool.and_eq_true, bne_iff_ne, Bool.not_eq_true', decide_eq_false_iff_not, Int.not_lt]
     simp only [hg]
     have hv : (((L.getD k default).client != d.client && (decide (evN L d.client k < 0) || decide ((L.getD k default).id < (L.getD (evN L d.client k).toNat default).id))) = true) ↔ ((L.getD k default).client ≠ d.client ∧ (evN L d.client k < 0 ∨ (L.getD k default).id < (L.getD (evN L d.client k).toNat default).id)) := by
      simp only [Bool.and_eq_true, Bool.or_eq_true, bne_iff_ne, decide_eq_true_eq]
     refine ⟨fun h => by omega, fun h => by omega, fun h => by omega, fun hc => ?_, fun hc => ?_⟩
     ·have hn : evN L d.client (k + 1) = k := by rw [evN, if_pos (hv.1 hc)]
      refine V_sound ?_
      simp only [go_sem, e3]
      refine ⟨k + 1, h1, by omega, [_], by simp only [List.append_assoc, List.cons_append, List.nil_append]; rfl, ?_, ?_, hBm⟩
      ·rw [List.length_append, List.length_set]; omega
      ·simp only [go_sem, List.length_append, List.length_cons, List.length_nil, List.length_set, hn]
       omega
     ·have hn : evN L d.client (k + 1) = evN L d.client k := by
       rw [evN, if_neg (fun h => by rw [hv.2 h] at hc; cases hc)]
      refine V_sound ?_
      simp only [go_sem, e3]
      refine ⟨k + 1, h1, by omega, [_], by simp only [List.append_assoc, List.cons_append, List.nil_append]; rfl, ?_, ?_, hBm⟩
      ·rw [List.length_append, List.length_set]; omega
      ·simp only [go_sem, List.length_append, List.length_cons, List.length_nil, List.length_set, hn]
       omega
    ·have hkl : k = L.length := by omega
     subst hkl
     obtain ⟨q, hq⟩ : ∃ q : Nat, evN L d.client L.length = q := ⟨(evN L d.client L.length).toNat, by omega⟩
     rw [hq] at hw hevl ⊢
     rw [Int.toNat_natCast] at hw
     have e3 : IntKind.i64.wrap ((q : Int) + 1) = ((q + 1 : Nat) : Int) := w64s (by omega)
     have hd := del_rc (M := M.set c (dnR (vc + 1) L false) ++ [boxS b vb ll c (vc + 1) L.length floor, .rows 130 5 0 [dnCells d] true, zSh, .rows 130 5 0 [dnCells d] true]) (b := c) (v := vc + 1) (i := q) (j := q + 1) (l := rowsL 5 Dn.c L) F_slices_Delete_api_Done_api_Done (hgA _) (by omega) (by rw [rowsL_len]; omega) (by rw [rowsL_len]; omega) hBm
     have hlw : q + (L.length - (q + 1)) = (doneS dones d).length := by
      rw [hw, List.length_append, List.length_take, List.length_drop]; omega
     rw [rowsL_take, rowsL_drop, rowsL_app, ← hw, rowsL_len, hlw, hgS] at hd
     refine V_sound ?_
     simp only [go_sem, msetS, msetS0, mgetS, mgetS0, hgA, e3]
     refine call1 hd (by simp only [go_sem]) (fun h => Bool.noConfusion h) ?_
     simp only [go_sem, msetS, msetS0, mgetS, mgetS0]
     refine ⟨[], ?_, ?_, ?_, ?_⟩
     ·simp only [List.append_nil]
     ·rw [List.length_append, List.length_set]; omega
     ·simp only [go_sem, List.length_append, List.length_cons, List.length_nil, List.length_set]
      omega
     ·refine ltM_app (ltM_set hMB (rowsL_ltB _ _ _ _ _)) ?_
      intro x hx
      simp only [List.mem_cons, List.not_mem_nil, or_false] at hx
      rw [List.length_set]
      rcases hx with rfl | rfl | rfl | rfl
      ·simp only [go_sem, ltB, List.length_cons, List.length_nil]
       omega
      ·simp only [go_sem, ltB]
      ·simp only [go_sem, ltB]
      ·simp only [go_sem, ltB]
   ·refine V_sound ?_
    simp only [go_sem, msetS, msetS0, mgetS, mgetS0, hgA]
    exact hend (doneS dones d) (vc + 1) false _ [_] _ _ (by simp only [go_sem])
end Go.Proofs.YtpdcpdngckpgbaaGreat.A
end
section
namespace Go.Proofs.YtpdcpdngckpgbaaGreat.A
open Go Go.Proofs.YtpdcpdngckpgbaaGreatAbs
structure Ent where
 epoch : Int
 client : Int
 id : Int
 op : Opn
instance : Inhabited Ent := ⟨⟨0, 0, 0, default⟩⟩
@[go_sem] def Ent.c (x : Ent) : Nat → CV
 | 0 => .v (.int .i64 x.epoch)
 | 1 => .v (.int .i64 x.client)
 | 2 => .v (.int .i64 x.id)
 | 3 => .v (.int .i64 x.op.kind)
 | 4 => .v (.string x.op.ser)
 | 5 => .v (.int .i64 x.op.smp.t)
 | 6 => .v (.int .i64 x.op.smp.v)
 | 7 => .v (.int .i64 x.op.frm)
 | 8 => .v (.int .i64 x.op.to)
 | _ => .v (.int .i64 x.op.tot)
abbrev entCells (x : Ent) : List AV := .c (.v (.int .i64 x.epoch)) :: .c (.v (.int .i64 x.client)) :: .c (.v (.int .i64 x.id)) :: opRow x.op
abbrev entA (x : Ent) : Pt := .agg (entCells x)
theorem frz_rows {α : Type} [Inhabited α] {sz : Nat} {c : α → Nat → CV} (b v : Nat) (r : List (List AV)) (l : List α) : (rowsL sz c l).map (fun x => x.map (frzA b v r)) = rowsL sz c l := by
 rw [List.map_congr_left (g := id)]
 ·exact List.map_id _
 ·intro x hx
  obtain ⟨y, _, rfl⟩ := List.mem_map.1 hx
  have : ∀ (k : Nat) (a : AV), a ∈ cellsUp (c y) 0 sz → frzA b v r a = a := fun k a ha => by
   obtain ⟨z, rfl⟩ := cellsUp_closed _ _ _ a ha
   rfl
  rw [List.map_congr_left (g := id) (fun a ha => this 0 a ha)]
  exact List.map_id _
theorem frzB_dn (b v w : Nat) (r : List (List AV)) (l : List Dn) (f : Bool) : frzB b v r (dnR w l f) = dnR w l f := by
 show Blk.rows _ _ _ _ _ = _
 rw [frz_rows]
theorem subS_tupL {l l' : List Pt} (h : SubL l l') : SubS (.tup l) (.tup l') := by
 rintro I σ y ⟨vs, rfl, hs, hr⟩
 refine ⟨vs, rfl, by rw [hs, hl_len h], fun k q x hq hx => ?_⟩
 have hk : k < l.length := by rw [hl_len h]; exact getElem?_lt hq
 exact h.get k _ q (List.getElem?_eq_getElem hk) hq I σ x (hr k _ x (List.getElem?_eq_getElem hk) hx)
where hl_len {l l' : List Pt} (h : SubL l l') : l.length = l'.length := h.length
def SubAs : List AV → List AV → Prop
 | [], [] => True
 | a :: l, a' :: l' => SubA a a' ∧ SubAs l l'
 | _, _ => False
theorem SubAs.length : ∀ {l l' : List AV}, SubAs l l' → l.length = l'.length
 | [], [], _ => rfl
 | a :: l, a' :: l', h => by simp [SubAs.length h.2]
 | [], a :: l', h => h.elim
 | a :: l, [], h => h.elim
theorem SubAs.get : ∀ {l l' : List AV}, SubAs l l' → ∀ (k : Nat) (q q' : AV), l[k]? = some q → l'[k]? = some q' → SubA q q'
 | [], [], _, k, q, q', h, _ => by simp at h
 | a :: l, a' :: l', h, 0, q, q', h1, h2 => by injection h1 with h1; injection h2 with h2; subst h1; subst h2; exact h.1
 | a :: l, a' :: l', h, k + 1, q, q', h1, h2 => SubAs.get h.2 k q q' h1 h2
 | [], a :: l', h, _, _, _, _, _ => h.elim
 | a :: l, [], h, _, _, _, _, _ => h.elim
theorem subP_aggL {l l' : List AV} (h : SubAs l l') : SubP (.agg l) (.agg l') := by
 rintro I σ y ⟨cs, rfl, hl, hr⟩
 refine ⟨cs, rfl, by rw [hl, h.length], fun k q x hq hx => ?_⟩
 have hk : k < l.length := by rw [h.length]; exact getElem?_lt hq
 exact h.get k _ q (List.getElem?_eq_getElem hk) hq I σ x (hr k _ x (List.getElem?_eq_getElem hk) hx)
theorem endDo {n : Nat} (s : Shf) (a : Ans) (code : Int) (e : Nat → SV) (X : List Blk) (v vc : Nat) (f fc : Bool) (h4 : e 4 = .p (.one (.ptr 2 0 0 0))) (h5 : e 5 = .p (.one (.ptr 3 0 0 0))) (h6 : e 6 = .i code)
  (x2 : X[2]? = some (boxS 6 v s.lines.length 7 vc s.dones.length s.floor)) (x3 : X[3]? = some (ansB a)) (x6 : X[6]? = some (lnR v s.lines f)) (x7 : X[7]? = some (dnR vc s.dones fc)) : FinK n 0 [.l true 3 4, .l true 3 5, .t 6] (.tup [shfA s, ansA a, .i code]) [] .ret ⟨e, X⟩ := by
 have y7 : ((X.map (frzB 6 v (rowsL 2 Lin.c s.lines))).set 6 .dead)[7]? = some (dnR vc s.dones fc) := by
  rw [List.getElem?_set, if_neg (by decide), List.getElem?_map, x7]
  exact congrArg some (frzB_dn _ _ _ _ _ _)
 refine finQ (.inr rfl) ((gh_freeze (b := 6) (l := rowsL 2 Lin.c s.lines) x6 (rowsL_closed _)).trans (gh_freeze (b := 7) (l := rowsL 5 Dn.c s.dones) y7 (rowsL_closed _))) (qs := [.agg [.c (.imm 2 s.lines.length fun i j => toC (((rowsL 2 Lin.c s.lines).getD (0 + i) []).getD j default)), .c (.imm 5 s.dones.length fun i j => toC (((rowsL 5 Dn.c s.dones).getD (0 + i) []).getD j default)), .c (.v (.int .i64 s.floor))], ansA a, .i code]) (cnd := True ∧ True) ?_ ⟨trivial, trivial⟩ ?_ (by simp only [go_sem])
 ·simp only [go_sem, h4, h5, h6, List.getElem?_set, List.getElem?_map, x2, x3, Option.map_some]
 ·exact subS_tupL ⟨subP_aggL ⟨frz_sub _, frz_sub _, SubA.refl _, trivial⟩, SubP.refl _, SubP.refl _, trivial⟩
def metI (dones : List Dn) (c i : Int) : Nat := dones.findIdx fun d => decide (d.client = c) && decide (i ≤ d.id)
def DoS (s : Shf) (e : Ent) : Shf × Ans × Int :=
 if shOk s = false ∨ ¬ (0 ≤ e.client ∧ e.client ≤ 2147483647) ∨ ¬ (1 ≤ e.id ∧ e.id ≤ 2147483647) then (⟨[], [], 0⟩, ⟨0, false, 0⟩, 1)
 else if metI s.dones e.client e.id < s.dones.length then (s, if (s.dones.getD (metI s.dones e.client e.id) default).id = e.id then (s.dones.getD (metI s.dones e.client e.id) default).ans else ⟨9, false, 0⟩, 0)
 else if 0 < e.client then (⟨(doOp s e.op).1.lines, doneS (doOp s e.op).1.dones ⟨e.client, e.id, (doOp s e.op).2⟩, (doOp s e.op).1.floor⟩, (doOp s e.op).2, 0)
 else ((doOp s e.op).1, (doOp s e.op).2, 0)
theorem doOp_dones (s : Shf) (o : Opn) : (doOp s o).1.dones = s.dones := by
 unfold doOp
 split
 ·rfl
 ·split
  ·rfl
  ·split <;> rfl
set_option maxRecDepth 20000 in
theorem Do_rc (s : Shf) (hz : zShf s) (en : Ent) (ho : en.op.ser.size ≤ 2000) (hev : shOk s = true → metI s.dones en.client en.id = s.dones.length → 8 < (insD s.dones ⟨en.client, en.id, (doOp s en.op).2⟩).length → 0 ≤ evN (insD s.dones ⟨en.client, en.id, (doOp s en.op).2⟩) en.client (insD s.dones ⟨en.client, en.id, (doOp s en.op).2⟩).length) (M : List Blk) :
  CallR Tryz.prog M n_shelf_Do [shfA s, entA en] (.tup [shfA (DoS s en).1, ansA (DoS s en).2.1, .i (DoS s en).2.2]) M := by
 refine callPG F_shelf_Do (Nat.le_of_ble_eq_true rfl) (by simp only [go_sem, opRow]) ?_ M
 obtain ⟨epoch, client, id, op⟩ := en
 simp only at ho hev ⊢
 refine run_seqV ?_
 simp only [go_sem, opRow]
 refine run_seqV ?_
 simp only [go_sem]
 refine call0 (sCheck_rc s hz) ?_
 simp only [go_sem]
 refine callg0 (fun _ => in_rc client 0 2147483647) ?_
 simp only [go_sem]
 refine callg0 (fun _ => in_rc id 1 2147483647) ?_
 simp only [go_sem]
 rw [ifne]
 refine ⟨fun hc => ?_, fun hc => ?_⟩
 ·have hw : DoS s ⟨epoch, client, id, op⟩ = (⟨[], [], 0⟩, ⟨0, false, 0⟩, 1) := by
   rw [DoS, if_pos]
   simp only [Bool.or_eq_true, Bool.not_eq_true', decide_eq_false_iff_not] at hc
   simp only
   rcases hc with (hc | hc) | hc
   ·exact .inl hc
   ·exact .inr (.inl (by omega))
   ·exact .inr (.inr (by omega))
  rw [hw]
  exact fin0 (.inr rfl) (qs := [.agg [.c (.v (.slice none 0 0)), .c (.v (.slice none 0 0)), .c (.v (.int .i64 0))], ansA ⟨0, false, 0⟩, .i 1]) (cnd := True ∧ True) (by simp only [go_sem]) ⟨trivial, trivial⟩ (subS_tupL ⟨subP_aggL ⟨nil_sub (α := Lin), nil_sub (α := Dn), SubA.refl _, trivial⟩, SubP.refl _, SubP.refl _, trivial⟩) (by simp only [go_sem])
 have hs : shOk s = true ∧ (0 ≤ client ∧ client ≤ 2147483647) ∧ (1 ≤ id ∧ id ≤ 2147483647) := by
  simp only [Bool.or_eq_false_iff, Bool.not_eq_false', decide_eq_true_eq] at hc
  exact ⟨hc.1.1, hc.1.2, hc.2⟩
 have hev := hev hs.1
 have hw : DoS s ⟨epoch, client, id, op⟩ = if metI s.dones client id < s.dones.length then (s, if (s.dones.getD (metI s.dones client id) default).id = id then (s.dones.getD (metI s.dones client id) default).ans else ⟨9, false, 0⟩, 0)
   else if 0 < client then (⟨(doOp s op).1.lines, doneS (doOp s op).1.dones ⟨client, id, (doOp s op).2⟩, (doOp s op).1.floor⟩, (doOp s op).2, 0) else ((doOp s op).1, (doOp s op).2, 0) := by
  rw [DoS, if_neg]
  simp only
  rintro (h | h | h)
  ·rw [hs.1] at h; cases h
  ·exact h hs.2.1
  ·exact h hs.2.2
 rw [hw]
 have hown := own_rc s hz (M := [.rows 77 3 0 [[.c (immL 2 Lin.c s.lines), .c (immL 5 Dn.c s.dones), .c (.v (.int .i64 s.floor))]] true, .rows 80 10 0 [entCells ⟨epoch, client, id, op⟩] true, zSh, ansB ⟨0, false, 0⟩]) (by simp only [go_sem, ltB, opRow])
 simp only [List.length_cons, List.length_nil, Nat.zero_add, Nat.reduceAdd, List.cons_append, List.nil_append] at hown
 refine run_seqV ?_
 simp only [go_sem]
 refine call1 hown (by simp only [go_sem]) (fun h => Bool.noConfusion h) ?_
 simp only [go_sem]
 refine run_seqV ?_
 simp only [go_sem]
 obtain ⟨lines, dones, floor⟩ := s
 obtain ⟨hll, hdl, hser, hsmp⟩ := hz
 simp only at hll hdl hser hsmp hev hw hs ⊢
 have hBm : ∀ x ∈ [boxS 6 1 lines.length 7 1 dones.length floor, .rows 80 10 0 [entCells ⟨epoch, client, id, op⟩] true, zSh, ansB ⟨0, false, 0⟩, .dead, boxS 6 1 lines.length 7 1 dones.length floor, lnR 1 lines false, dnR 1 dones false], ltB 8 x := by
  intro x hx
  simp only [List.mem_cons, List.not_mem_nil, or_false] at hx
  rcases hx with rfl | rfl | rfl | rfl | rfl | rfl | rfl | rfl
  ·simp only [go_sem, ltB]
  ·simp only [go_sem, ltB, opRow]
  ·simp only [go_sem, ltB]
  ·simp only [go_sem, ltB]
  ·trivial
  ·simp only [go_sem, ltB]
  ·exact rowsL_ltB _ _ _ _ _
  ·exact rowsL_ltB _ _ _ _ _
 refine R_loop (ι := Nat) (J := fun k => k ≤ dones.length ∧ ∀ i, i < k → ¬ ((dones.getD i default).client = client ∧ id ≤ (dones.getD i default).id))
  (env := fun k => [(2, .p (.one (.ptr 0 0 0 0))), (3, .p (.one (.ptr 1 0 0 0))), (4, .p (.one (.ptr 2 0 0 0))), (5, .p (.one (.ptr 3 0 0 0))), (30, .p (.one (.arr 5 7 1 0 dones.length))), (31, .i dones.length), (32, .i k)])
  (mem := fun _ => [boxS 6 1 lines.length 7 1 dones.length floor, .rows 80 10 0 [entCells ⟨epoch, client, id, op⟩] true, zSh, ansB ⟨0, false, 0⟩, .dead, boxS 6 1 lines.length 7 1 dones.length floor, lnR 1 lines false, dnR 1 dones false])
  (μ := fun k => dones.length - k) 0 ⟨Nat.zero_le _, fun i hi => absurd hi (Nat.not_lt_zero _)⟩ ⟨[], by simp only [List.append_nil, opRow], Nat.zero_le _, ?_, hBm⟩ ?_
 ·simp only [go_sem, List.length_cons, List.length_nil, Nat.zero_add, Nat.reduceAdd]
 rintro k ⟨hk, hne⟩
 refine run_seqV ?_
 simp only [go_sem]
 refine run_seqV ?_
 simp only [go_sem]
 refine ⟨fun h1 => ?_, fun h1 => ?_⟩
 ·have hrow := rowsL_getD (sz := 5) (c := Dn.c) h1
  simp only [go_sem] at hrow
  have e3 : IntKind.i64.wrap ((k : Int) + 1) = ((k + 1 : Nat) : Int) := w64s (by omega)
  refine run_seq ?_
  refine run_block ?_
  refine run_seqV ?_
  simp only [go_sem, hrow]
  refine ⟨by omega, h1, run_seqV ?_⟩
  simp only [go_sem, hrow, opRow]
  refine ⟨fun h2 => ⟨rfl, ?_⟩, fun h2 => run_seqV ?_⟩
  ·have hq : (dones.getD k default).client = client ∧ (dones.getD k default).id = id := by simpa using h2
   have hm : metI dones client id = k := by
    rw [metI, List.findIdx_eq h1]
    refine ⟨?_, fun i hi => ?_⟩
    ·have h5 := hq
     rw [List.getD_eq_getElem?_getD, List.getElem?_eq_getElem h1, Option.getD_some] at h5
     rw [h5.1, h5.2]; simp
    ·have h5 := hne i hi
     rw [List.getD_eq_getElem?_getD, List.getElem?_eq_getElem (show i < dones.length by omega), Option.getD_some] at h5
     simpa [Bool.and_eq_false_iff] using h5
   rw [hm, if_pos h1]
   simp only [if_pos hq.2]
   exact endDo ⟨lines, dones, floor⟩ (dones.getD k default).ans 0 _ _ 1 1 false false (by simp only [go_sem]) (by simp only [go_sem]) (by simp only [go_sem]) rfl rfl rfl rfl
  ·simp only [go_sem, hrow, opRow]
   have hnq : ¬ ((dones.getD k default).client = client ∧ (dones.getD k default).id = id) := by
    intro h; rw [h.1, h.2] at h2; simp at h2
   refine V_sound ?_
   simp only [go_sem]
   refine ⟨fun h3 => ?_, fun h3 => ?_⟩
   ·have hq : (dones.getD k default).client = client ∧ id < (dones.getD k default).id := by simpa using h3
    have hm : metI dones client id = k := by
     rw [metI, List.findIdx_eq h1]
     refine ⟨?_, fun i hi => ?_⟩
     ·have h5 := hq
      rw [List.getD_eq_getElem?_getD, List.getElem?_eq_getElem h1, Option.getD_some] at h5
      rw [h5.1]; simp; omega
     ·have h5 := hne i hi
      rw [List.getD_eq_getElem?_getD, List.getElem?_eq_getElem (show i < dones.length by omega), Option.getD_some] at h5
      simpa [Bool.and_eq_false_iff] using h5
    rw [hm, if_pos h1]
    simp only [if_neg (show ¬ (dones.getD k default).id = id by omega)]
    exact endDo ⟨lines, dones, floor⟩ ⟨9, false, 0⟩ 0 _ _ 1 1 false false (by simp only [go_sem]) (by simp only [go_sem]) (by simp only [go_sem]) rfl rfl rfl rfl
   ·refine V_sound ?_
    simp only [go_sem, e3]
    refine ⟨k + 1, ⟨h1, fun i hi => ?_⟩, by omega, [_], by simp only [List.cons_append, List.nil_append]; rfl, ?_, ?_, hBm⟩
    ·by_cases e : i = k
     ·subst e
      rintro ⟨h5, h6⟩
      have : ¬ ((dones.getD i default).client = client ∧ id < (dones.getD i default).id) := by
       rintro ⟨h7, h8⟩
       rw [h7, beq_self_eq_true, decide_eq_true h8] at h3
       cases h3
      rcases Int.lt_or_eq_of_le h6 with h7 | h7
      ·exact this ⟨h5, h7⟩
      ·exact hnq ⟨h5, h7.symm⟩
     ·exact hne i (by omega)
    ·simp only [List.length_cons, List.length_nil]; omega
    ·simp only [go_sem]
 ·have hkl : k = dones.length := by omega
  subst hkl
  have hm : metI dones client id = dones.length := by
   rw [metI, List.findIdx_eq_length]
   intro y hy
   obtain ⟨j, hj, rfl⟩ := List.mem_iff_getElem.1 hy
   have h5 := hne j hj
   rw [List.getD_eq_getElem?_getD, List.getElem?_eq_getElem hj, Option.getD_some] at h5
   simpa [Bool.and_eq_false_iff] using h5
  have hev := hev hm
  rw [hm, if_neg (Nat.lt_irrefl _)]
  obtain ⟨v, f, hdo⟩ := do_rc (M := [boxS 6 1 lines.length 7 1 dones.length floor, .rows 80 10 0 [entCells ⟨epoch, client, id, op⟩] true, zSh, ansB ⟨0, false, 0⟩, .dead, boxS 6 1 lines.length 7 1 dones.length floor, lnR 1 lines false, dnR 1 dones false]) (b := 6) (c := 7) (vb := 1) (vc := 1) (fb := false) (fc := false) (s := ⟨lines, dones, floor⟩) (by decide) rfl rfl hBm ⟨hll, hdl, hser, hsmp⟩ op ho
  rw [doOp_dones] at hdo ⊢
  simp only [List.set_cons_succ, List.set_cons_zero] at hdo
  generalize he : doOp ⟨lines, dones, floor⟩ op = W at hdo hev ⊢
  have hWd : W.1.dones = dones := by rw [← he, doOp_dones]
  obtain ⟨⟨L, dn, fl⟩, a⟩ := W
  simp only at hWd hdo hev ⊢
  subst hWd
  refine run_seqV ?_
  simp only [go_sem, opRow]
  refine call1 hdo (by simp only [go_sem]) (fun h => Bool.noConfusion h) ?_
  simp only [go_sem]
  have hBn : ∀ x ∈ [boxS 6 v L.length 7 1 dn.length fl, .rows 80 10 0 [entCells ⟨epoch, client, id, op⟩] true, zSh, ansB ⟨0, false, 0⟩, .dead, boxS 6 1 lines.length 7 1 dn.length floor, lnR v L f, dnR 1 dn false, ansB a], ltB 9 x := by
   intro x hx
   simp only [List.mem_cons, List.not_mem_nil, or_false] at hx
   rcases hx with rfl | rfl | rfl | rfl | rfl | rfl | rfl | rfl | rfl
   ·simp only [go_sem, ltB]
   ·simp only [go_sem, ltB, opRow]
   ·simp only [go_sem, ltB]
   ·simp only [go_sem, ltB]
   ·trivial
   ·simp only [go_sem, ltB]
   ·exact rowsL_ltB _ _ _ _ _
   ·exact rowsL_ltB _ _ _ _ _
   ·simp only [go_sem, ltB]
  obtain ⟨v2, f2, hdn⟩ := done_rc (b := 6) (vb := v) (ll := L.length) (c := 7) (vc := 1) (dones := dn) (fc := false) (Nat.le_of_ble_eq_true rfl) rfl hBn fl ⟨client, id, a⟩ hdl hev
  simp only [List.set_cons_succ, List.set_cons_zero] at hdn
  refine run_seqV ?_
  simp only [go_sem]
  refine ⟨fun hc => ?_, fun hc => ?_⟩
  ·rw [if_pos hc]
   refine call1 hdn (by simp only [go_sem]) (fun h => Bool.noConfusion h) ?_
   simp only [go_sem]
   refine run_seqV ?_
   simp only [go_sem]
   refine ⟨rfl, V_sound ?_⟩
   simp only [go_sem]
   exact endDo ⟨L, doneS dn ⟨client, id, a⟩, fl⟩ a 0 _ _ v v2 f f2 (by simp only [go_sem]) (by simp only [go_sem]) (by simp only [go_sem]) rfl rfl rfl rfl
  ·rw [if_neg hc]
   refine run_seqV ?_
   simp only [go_sem]
   refine ⟨rfl, V_sound ?_⟩
   simp only [go_sem]
   exact endDo ⟨L, dn, fl⟩ a 0 _ _ v 1 f false (by simp only [go_sem]) (by simp only [go_sem]) (by simp only [go_sem]) rfl rfl rfl rfl
end Go.Proofs.YtpdcpdngckpgbaaGreat.A
end
section
namespace Go.Proofs.YtpdcpdngckpgbaaGreat.A
open Go Go.Proofs.YtpdcpdngckpgbaaGreatAbs
def rlI (l : List Lin) (n : ByteArray) : Nat := l.findIdx fun x => decide (x.ser = n)
def rlineS (l : List Lin) (n : ByteArray) : List Smp := if rlI l n < l.length then (l.getD (rlI l n) default).smps else []
theorem rlI_eq {l : List Lin} {n : ByteArray} {k : Nat} (h1 : k < l.length) (hc : (l.getD k default).ser = n) (hne : ∀ i, i < k → (l.getD i default).ser ≠ n) : rlI l n = k := by
 rw [rlI, List.findIdx_eq h1]
 refine ⟨by simpa [List.getD_eq_getElem?_getD, h1] using hc, fun i hi => ?_⟩
 simpa [List.getD_eq_getElem?_getD, show i < l.length by omega] using hne i hi
theorem rlI_len {l : List Lin} {n : ByteArray} (hne : ∀ i, i < l.length → (l.getD i default).ser ≠ n) : rlI l n = l.length := by
 rw [rlI, List.findIdx_eq_length]
 intro y hy
 obtain ⟨j, hj, rfl⟩ := List.mem_iff_getElem.1 hy
 simpa [List.getD_eq_getElem?_getD, hj] using hne j hj
set_option maxRecDepth 20000 in
theorem rline_rc (s : Shf) (hll : s.lines.length ≤ 1000) (n : ByteArray) (M : List Blk) : CallR Tryz.prog M n_windroseref14_Line [shfA s, .s n] (.p (smpL (rlineS s.lines n))) M := by
 refine callPG F_windroseref14_Line (Nat.le_of_ble_eq_true rfl) (by simp only [go_sem]) ?_ M
 obtain ⟨lines, dones, floor⟩ := s
 simp only at hll ⊢
 refine run_seqV ?_
 simp only [go_sem]
 refine run_seqV ?_
 simp only [go_sem]
 refine R_loop (ι := Nat) (J := fun k => k ≤ lines.length ∧ ∀ i, i < k → (lines.getD i default).ser ≠ n)
  (env := fun k => [(1, .p (.s n)), (2, .p (.one (.ptr 0 0 0 0))), (5, .i k)])
  (mem := fun _ => [.rows 77 3 0 [[.c (immL 2 Lin.c lines), .c (immL 5 Dn.c dones), .c (.v (.int .i64 floor))]] true])
  (μ := fun k => lines.length - k) 0 ⟨Nat.zero_le _, fun i hi => absurd hi (Nat.not_lt_zero _)⟩ ⟨[], ?_, Nat.zero_le _, ?_, ?_⟩ ?_
 ·simp only [go_sem]
 ·simp only [go_sem]
 ·simp only [go_sem, ltB]
 rintro k ⟨hk, hne⟩
 refine run_seqV ?_
 simp only [go_sem]
 have e3 : k < lines.length → IntKind.i64.wrap ((k : Int) + 1) = ((k + 1 : Nat) : Int) := fun h => w64s (by omega)
 refine ⟨fun h1 => ?_, fun h1 => ?_⟩
 ·have e3 := e3 h1
  refine run_seqV ?_
  simp only [go_sem]
  refine ⟨by omega, fun hc => ⟨by omega, ?_⟩, fun hc => ?_⟩
  ·have : rlI lines n = k := rlI_eq h1 hc hne
   simp only [rlineS, this, if_pos h1]
   exact fin0 (.inr rfl) (qs := [smpL (lines.getD k default).smps]) (cnd := True) (by simp only [go_sem]) trivial (SubS.refl _) (by simp only [go_sem])
  ·refine V_sound ?_
   simp only [go_sem, e3]
   refine ⟨k + 1, ⟨h1, fun i hi => ?_⟩, by omega, [], by simp only [go_sem], Nat.zero_le _, by simp only [go_sem], by simp only [go_sem, ltB]⟩
   by_cases e : i = k
   ·subst e; exact hc
   ·exact hne i (by omega)
 ·have hkl : k = lines.length := by omega
  subst hkl
  have : rlI lines n = lines.length := rlI_len hne
  simp only [rlineS, this, if_neg (Nat.lt_irrefl _)]
  refine V_sound ?_
  simp only [go_sem]
  exact fin0 (.inr rfl) (qs := [.one (.c (.v (.slice none 0 0)))]) (cnd := True) (by simp only [go_sem]) trivial (subS_p (subP_one (nil_sub (α := Smp)))) (by simp only [go_sem])
def stStep (n : ByteArray) (x : List Smp) (p : List Lin × Bool) (y : Lin) : List Lin × Bool :=
 let q := if (!p.2 && !sLt y.ser n) = true then (p.1 ++ [⟨n, x⟩], true) else p
 if y.ser = n then q else (q.1 ++ [y], q.2)
def stAll (n : ByteArray) (x : List Smp) (l : List Lin) : List Lin × Bool := l.foldl (stStep n x) ([], decide (x.length = 0))
def setS (l : List Lin) (n : ByteArray) (x : List Smp) : List Lin := if (stAll n x l).2 = true then (stAll n x l).1 else (stAll n x l).1 ++ [⟨n, x⟩]
theorem stAll_len (n : ByteArray) (x : List Smp) (l : List Lin) : ∀ p : List Lin × Bool, (l.foldl (stStep n x) p).1.length + (if (l.foldl (stStep n x) p).2 = true then 0 else 1) ≤ p.1.length + l.length + (if p.2 = true then 0 else 1) := by
 induction l with
 | nil => intro p; rw [List.foldl_nil, List.length_nil]; omega
 | cons y l ih =>
  intro p
  rw [List.foldl_cons]
  refine Nat.le_trans (ih _) ?_
  have : (stStep n x p y).1.length + (if (stStep n x p y).2 = true then 0 else 1) ≤ p.1.length + 1 + (if p.2 = true then 0 else 1) := by
   obtain ⟨a, b⟩ := p
   unfold stStep
   cases b <;> cases sLt y.ser n <;> by_cases h : y.ser = n <;> simp [h] <;> omega
  simp only [List.length_cons]
  omega
theorem lin_row (a : List Lin) (n : ByteArray) (x : List Smp) : rowsL 2 Lin.c a ++ [[AV.c (CV.v (Value.string n)), AV.c (smpCV x)]] = rowsL 2 Lin.c (a ++ [⟨n, x⟩]) := rowsL_app1 a ⟨n, x⟩
set_option maxRecDepth 20000 in
theorem rset_rc (l : List Lin) (hl : l.length ≤ 100000) (n : ByteArray) (x : List Smp) (M : List Blk) : CallR Tryz.prog M n_windroseref14_set [linL l, .s n, smpL x] (.p (linL (setS l n x))) M := by
 refine callPG F_windroseref14_set (Nat.le_of_ble_eq_true rfl) (by simp only [go_sem]) ?_ M
 refine run_seqV ?_
 simp only [go_sem]
 refine run_seqV ?_
 simp only [go_sem]
 refine run_seqV ?_
 simp only [go_sem]
 refine run_seqV ?_
 simp only [go_sem]
 refine R_loop (ι := Nat × Nat × Bool) (J := fun p => p.1 ≤ l.length)
  (env := fun p => [(0, .p (linL l)), (1, .p (.s n)), (2, .p (smpL x)), (7, .p (.one (.arr 2 0 p.2.1 0 (stAll n x (l.take p.1)).1.length))), (8, .b (stAll n x (l.take p.1)).2), (9, .i p.1)])
  (mem := fun p => [.rows 136 2 p.2.1 (rowsL 2 Lin.c (stAll n x (l.take p.1)).1) p.2.2])
  (μ := fun p => l.length - p.1) (0, 0, true) (Nat.zero_le _) ⟨[], ?_, Nat.zero_le _, ?_, ?_⟩ ?_
 ·simp only [go_sem, List.take_zero, stAll, List.foldl_nil, rowsL_nil]
 ·simp only [go_sem, List.take_zero, stAll, List.foldl_nil, List.length_nil]
  rw [Bool.eq_iff_iff]; simp
 ·simp only [go_sem, ltB]
  exact fun r hr => (rowsL_row r hr).2 _
 rintro ⟨k, v, f⟩ hk
 simp only at hk
 refine run_seqV ?_
 simp only [go_sem]
 have hwl : (stAll n x (l.take k)).1.length ≤ k + 1 := by
  have := stAll_len n x (l.take k) ([], decide (x.length = 0))
  rw [List.length_take] at this
  simp only [List.length_nil] at this
  unfold stAll
  split at this <;> split at this <;> omega
 refine ⟨fun h1 => ?_, fun h1 => ?_⟩
 ·have hst : stAll n x (l.take (k + 1)) = stStep n x (stAll n x (l.take k)) (l.getD k default) := foldl_take _ _ _ h1
  generalize hw : stAll n x (l.take k) = W at hst hwl ⊢
  obtain ⟨ws, put⟩ := W
  refine run_seq ?_
  refine run_block ?_
  refine run_seqV ?_
  simp only at hwl
  simp only [go_sem]
  have e3 : IntKind.i64.wrap ((k : Int) + 1) = ((k + 1 : Nat) : Int) := w64s (by omega)
  have hlx : (⟨(l.getD k default).ser, (l.getD k default).smps⟩ : Lin) = l.getD k default := rfl
  refine ⟨fun _ => ⟨by omega, h1⟩, fun hp => ⟨by omega, ?_⟩, fun hp => ?_⟩
  ·have hst' : stAll n x (l.take (k + 1)) = if (l.getD k default).ser = n then (ws ++ [⟨n, x⟩], true) else (ws ++ [⟨n, x⟩] ++ [l.getD k default], true) := by
    rw [hst, stStep]; simp only [hp, if_true]
   refine V_sound ?_
   simp only [go_sem, lin_row, rowsL_len, List.length_append, List.length_cons, List.length_nil, Nat.zero_add, hlx]
   refine ⟨⟨by omega, h1⟩, fun hq => ⟨⟨by omega, h1⟩, by omega, V_sound ?_⟩, fun hq => V_sound ?_⟩
   ·have hq : ¬ (l.getD k default).ser = n := by simpa using hq
    rw [if_neg hq] at hst'
    simp only [go_sem, e3]
    refine ⟨(k + 1, v + 1 + 1, false), h1, by simp only []; omega, [.rows 136 2 0 [[.c (.v (.string n)), .c (smpCV x)]] true, .rows 136 2 0 [[.c (.v (.string (l.getD k default).ser)), .c (smpCV (l.getD k default).smps)]] true], ?_, Nat.zero_le _, ?_, ?_⟩
    ·simp only [hst', go_sem, lin_row]
    ·simp only [go_sem, hst', List.length_append, List.length_cons, List.length_nil, Nat.zero_add]
    ·simp only [go_sem, ltB]
     exact fun r hr => (rowsL_row r hr).2 _
   ·have hq : (l.getD k default).ser = n := by simpa using hq
    rw [if_pos hq] at hst'
    simp only [go_sem, e3]
    refine ⟨(k + 1, v + 1, false), h1, by simp only []; omega, [.rows 136 2 0 [[.c (.v (.string n)), .c (smpCV x)]] true], ?_, Nat.zero_le _, ?_, ?_⟩
    ·simp only [hst', go_sem, lin_row]
    ·simp only [go_sem, hst', List.length_append, List.length_cons, List.length_nil, Nat.zero_add]
    ·simp only [go_sem, ltB]
     exact fun r hr => (rowsL_row r hr).2 _
  ·have hst' : stAll n x (l.take (k + 1)) = if (l.getD k default).ser = n then (ws, put) else (ws ++ [l.getD k default], put) := by
    rw [hst, stStep]; simp only [hp, Bool.false_eq_true, if_false]
   refine V_sound ?_
   simp only [go_sem, lin_row, rowsL_len, List.length_append, List.length_cons, List.length_nil, Nat.zero_add, hlx]
   refine ⟨⟨by omega, h1⟩, fun hq => ⟨⟨by omega, h1⟩, by omega, V_sound ?_⟩, fun hq => V_sound ?_⟩
   ·have hq : ¬ (l.getD k default).ser = n := by simpa using hq
    rw [if_neg hq] at hst'
    simp only [go_sem, e3]
    refine ⟨(k + 1, v + 1, false), h1, by simp only []; omega, [.rows 136 2 0 [[.c (.v (.string (l.getD k default).ser)), .c (smpCV (l.getD k default).smps)]] true], ?_, Nat.zero_le _, ?_, ?_⟩
    ·simp only [hst', go_sem, lin_row]
    ·simp only [go_sem, hst', List.length_append, List.length_cons, List.length_nil, Nat.zero_add]
    ·simp only [go_sem, ltB]
     exact fun r hr => (rowsL_row r hr).2 _
   ·have hq : (l.getD k default).ser = n := by simpa using hq
    rw [if_pos hq] at hst'
    simp only [go_sem, e3]
    refine ⟨(k + 1, v, f), h1, by simp only []; omega, [], ?_, Nat.zero_le _, ?_, ?_⟩
    ·simp only [hst', go_sem, lin_row]
    ·simp only [go_sem, hst', List.length_append, List.length_cons, List.length_nil, Nat.zero_add]
    ·simp only [go_sem, ltB]
     exact fun r hr => (rowsL_row r hr).2 _
 ·have hkl : k = l.length := by omega
  subst hkl
  rw [List.take_length] at hwl ⊢
  unfold setS
  generalize hw : stAll n x l = W at hwl ⊢
  obtain ⟨ws, put⟩ := W
  simp only at hwl
  have hend : ∀ (ws : List Lin) (e : Nat → SV) (X : List Blk) (v : Nat) (f : Bool), e 6 = .p (.one (.arr 2 0 v 0 ws.length)) → X[0]? = some (.rows 136 2 v (rowsL 2 Lin.c ws) f) → FinK 60 0 [.t 6] (.p (linL ws)) [] .ret ⟨e, X⟩ := by
   intro ws e X v f h4 hX
   refine finQ (.inr rfl) (gh_freeze (b := 0) (l := rowsL 2 Lin.c ws) hX (rowsL_closed ws)) (qs := [.one (.c (.imm 2 ws.length fun i j => toC (((rowsL 2 Lin.c ws).getD (0 + i) []).getD j default)))]) (cnd := True) ?_ trivial (subS_p (subP_one (frz_sub ws))) (by simp only [go_sem])
   simp only [go_sem, h4, Nat.zero_add]
  refine run_seqV ?_
  simp only [go_sem, rowsL_len]
  refine ⟨fun hp => ⟨by omega, ?_⟩, fun hp => ?_⟩
  ·have hput : put = false := by simpa using hp
   rw [hput]
   refine V_sound ?_
   have hl2 : ws.length + 1 = (ws ++ [(⟨n, x⟩ : Lin)]).length := by simp
   simp only [go_sem, lin_row, hl2]
   exact hend (ws ++ [(⟨n, x⟩ : Lin)]) _ _ _ _ (by simp only [go_sem]) rfl
  ·have hput : put = true := by simpa using hp
   rw [hput]
   refine V_sound ?_
   simp only [go_sem]
   exact hend ws _ _ _ _ (by simp only [go_sem]) rfl
end Go.Proofs.YtpdcpdngckpgbaaGreat.A
end
