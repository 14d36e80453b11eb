/- Part 5 of the texts on which the row stands: CdPg, PgA, PgB, PgC, PgD, PgE, PgF, PgG, PgGa, PgK, PgL, PgPa, PgP, PgQ, PgR. Conditions: none. -/
import Derived.Test.YtcmkhlfjcdchmaaPmxd
import Derived.Test.YtcmkhlfjcdchmaaProg
set_option linter.unusedVariables false
set_option linter.unusedSimpArgs false
section
set_option maxRecDepth 100000
namespace Go.Proofs.Ytcmkhlfjcdchmaa.A
open Go Go.Proofs.YtcmkhlfjcdchmaaAbs

/-- windrose/windroselaw28.Light -/
def c_windroselaw28_Light : C :=
 (.seq (.reg false [⟨some 1, .box 51 6 (.t 0), none⟩, ⟨some 2, .mv (kb false), none⟩])
 (.seq (.seq (.reg false [⟨some 3, .mv (ki 0), none⟩])
 (.block 0 (.loop (.seq (.seq (.reg false [⟨some 4, .mv (.t 3), none⟩, ⟨some 5, .fa 5 (.t 1), none⟩, ⟨some 6, .ld false 1 (.t 5), none⟩, ⟨some 7, .len (.t 6), none⟩, ⟨some 8, .bin .lss (.t 4) (.t 7), none⟩, ⟨some 9, .mv (.t 8), none⟩, ⟨some 10, .mv (.t 3), some (9, true)⟩, ⟨some 11, .bin .lss (.t 10) (ki 40), some (9, true)⟩, ⟨some 12, .pick (.t 9) (.t 11) (kb false), none⟩])
 (.cond (.t 12)
 .skip
 (.exit 0)))
 (.seq (.block 1 (.seq (.reg false [⟨some 15, .fa 5 (.t 1), none⟩, ⟨some 16, .ld false 1 (.t 15), none⟩, ⟨some 17, .mv (.t 3), none⟩, ⟨some 18, .ia 10 (.t 16) (.t 17), none⟩, ⟨some 19, .fa 3 (.t 18), none⟩, ⟨some 20, .fa 1 (.t 19), none⟩, ⟨some 21, .ld false 1 (.t 20), none⟩, ⟨some 22, .lens (.t 21), none⟩, ⟨some 23, .bin .gtr (.t 22) (ki 300), none⟩])
 (.cond (.t 23)
 (.seq (.reg false [⟨some 2, .mv (kb false), none⟩])
 .ret)
 .skip)))
 (.reg false [⟨some 13, .mv (.t 3), none⟩, ⟨some 14, .bin .add (.t 13) (ki 1), none⟩, ⟨some 3, .mv (.t 14), none⟩]))))))
 (.seq (.reg false [⟨some 24, .fa 0 (.t 1), none⟩, ⟨some 25, .ld true 3 (.t 24), none⟩, ⟨some 26, .call (kf 32) [(.t 25)], none⟩, ⟨some 27, .mv (.t 26), none⟩, ⟨some 28, .fa 5 (.t 1), some (27, true)⟩, ⟨some 29, .ld false 1 (.t 28), some (27, true)⟩, ⟨some 30, .len (.t 29), some (27, true)⟩, ⟨some 31, .bin .leq (.t 30) (ki 40), some (27, true)⟩, ⟨some 32, .pick (.t 27) (.t 31) (kb false), none⟩, ⟨some 2, .mv (.t 32), none⟩])
 .ret)))
abbrev n_windroselaw28_Light : Nat := 13
theorem F_windroselaw28_Light : Fun Try.prog n_windroselaw28_Light 33 c_windroselaw28_Light [.t 2] := ⟨⟨Try.f13, _, Try.func13, by kernel_rfl, rfl, rfl, by kernel_rfl, by kernel_rfl⟩⟩
/-- windrose/windroselaw28.awake -/
def c_windroselaw28_awake : C :=
 (.seq (.reg false [⟨some 0, .mv (kb false), none⟩])
 (.seq (.reg false [⟨some 8, .bld [.slice none 0 0, .slice none 0 0, .int .i64 0, .int .i64 0, .int .i64 0, .slice none 0 0] [], none⟩, ⟨some 9, .call (kf 23) [(ki 1), (ki 1)], none⟩, ⟨some 10, .call (kf 22) [(.t 8), (.t 9)], none⟩, ⟨some 7, .mv (.t 10), none⟩, ⟨some 11, .ex (.t 7) 0, none⟩, ⟨some 12, .ex (.t 7) 1, none⟩, ⟨some 1, .alloc 51 6 [.slice none 0 0, .slice none 0 0, .int .i64 0, .int .i64 0, .int .i64 0, .slice none 0 0], none⟩, ⟨none, .st 6 (.t 1) (.t 11), none⟩, ⟨some 2, .mv (.t 12), none⟩])
 (.seq (.reg true [⟨some 14, .ld true 6 (.t 1), none⟩, ⟨some 15, .call (kf 23) [(ki 1), (ki 2)], none⟩, ⟨some 16, .call (kf 22) [(.t 14), (.t 15)], none⟩, ⟨some 13, .mv (.t 16), none⟩, ⟨some 17, .ex (.t 13) 0, none⟩, ⟨some 18, .ex (.t 13) 1, none⟩, ⟨none, .st 6 (.t 1) (.t 17), none⟩, ⟨some 3, .mv (.t 18), none⟩])
 (.seq (.reg true [⟨some 20, .ld true 6 (.t 1), none⟩, ⟨some 21, .call (kf 23) [(ki 2), (ki 3)], none⟩, ⟨some 22, .call (kf 22) [(.t 20), (.t 21)], none⟩, ⟨some 19, .mv (.t 22), none⟩, ⟨some 23, .ex (.t 19) 0, none⟩, ⟨some 24, .ex (.t 19) 1, none⟩, ⟨none, .st 6 (.t 1) (.t 23), none⟩, ⟨some 4, .mv (.t 24), none⟩])
 (.seq (.reg false [⟨some 26, .ld true 6 (.t 1), none⟩, ⟨some 27, .bsl 3 1 2 [.int .i64 0] [(0, (ki 1)), (1, (ki 3))], none⟩, ⟨some 28, .call (kf 15) [(.t 26), (ki 0), (ki 0), (.t 27)], none⟩, ⟨some 25, .mv (.t 28), none⟩, ⟨some 29, .ex (.t 25) 0, none⟩, ⟨some 30, .ex (.t 25) 1, none⟩, ⟨some 5, .mv (.t 29), none⟩, ⟨some 6, .mv (.t 30), none⟩])
 (.seq (.reg false [⟨some 31, .mv (.t 2), none⟩, ⟨some 32, .bin .eql (.t 31) (ki 0), none⟩, ⟨some 33, .mv (.t 32), none⟩, ⟨some 34, .mv (.t 3), some (33, true)⟩, ⟨some 35, .bin .eql (.t 34) (ki 0), some (33, true)⟩, ⟨some 36, .pick (.t 33) (.t 35) (kb false), none⟩, ⟨some 37, .mv (.t 36), none⟩, ⟨some 38, .mv (.t 4), some (37, true)⟩, ⟨some 39, .bin .eql (.t 38) (ki 0), some (37, true)⟩, ⟨some 40, .pick (.t 37) (.t 39) (kb false), none⟩, ⟨some 41, .mv (.t 40), none⟩, ⟨some 42, .mv (.t 5), some (41, true)⟩, ⟨some 43, .bin .eql (.t 42) (ki 1), some (41, true)⟩, ⟨some 44, .pick (.t 41) (.t 43) (kb false), none⟩, ⟨some 45, .mv (.t 44), none⟩, ⟨some 46, .mv (.t 6), some (45, true)⟩, ⟨some 47, .pick (.t 45) (.t 46) (kb false), none⟩, ⟨some 48, .mv (.t 47), none⟩, ⟨some 49, .ld true 6 (.t 1), some (48, true)⟩, ⟨some 50, .call (kf 21) [(.t 49)], some (48, true)⟩, ⟨some 51, .bin .eql (.t 50) (ki 3), some (48, true)⟩, ⟨some 52, .pick (.t 48) (.t 51) (kb false), none⟩, ⟨some 53, .mv (.t 52), none⟩, ⟨some 54, .ld true 6 (.t 1), some (53, true)⟩, ⟨some 55, .call (kf 24) [(.t 54)], some (53, true)⟩, ⟨some 56, .bin .eql (.t 55) (ki 2), some (53, true)⟩, ⟨some 57, .pick (.t 53) (.t 56) (kb false), none⟩, ⟨some 0, .mv (.t 57), none⟩])
 .ret))))))
abbrev n_windroselaw28_awake : Nat := 5
theorem F_windroselaw28_awake : Fun Try.prog n_windroselaw28_awake 58 c_windroselaw28_awake [.t 0] := ⟨⟨Try.f5, _, Try.func5, by kernel_rfl, rfl, rfl, by kernel_rfl, by kernel_rfl⟩⟩
/-- windrose/pglog.Check -/
def c_pglog_Check : C :=
 (.seq (.reg false [⟨some 1, .box 51 6 (.t 0), none⟩, ⟨some 2, .mv (ki 0), none⟩])
 (.seq (.seq (.reg false [⟨some 3, .fa 0 (.t 1), none⟩, ⟨some 4, .ld true 3 (.t 3), none⟩, ⟨some 5, .call (kf 50) [(.t 4)], none⟩, ⟨some 6, .bin .neq (.t 5) (ki 0), none⟩, ⟨some 7, .mv (.t 6), none⟩, ⟨some 8, .fa 3 (.t 1), some (7, false)⟩, ⟨some 9, .ld false 1 (.t 8), some (7, false)⟩, ⟨some 10, .call (kf 26) [(.t 9), (ki 0), (ki 2147483647)], some (7, false)⟩, ⟨some 11, .un .not (.t 10), some (7, false)⟩, ⟨some 12, .pick (.t 7) (kb true) (.t 11), none⟩, ⟨some 13, .mv (.t 12), none⟩, ⟨some 14, .fa 4 (.t 1), some (13, false)⟩, ⟨some 15, .ld false 1 (.t 14), some (13, false)⟩, ⟨some 16, .call (kf 26) [(.t 15), (ki 0), (ki 2147483647)], some (13, false)⟩, ⟨some 17, .un .not (.t 16), some (13, false)⟩, ⟨some 18, .pick (.t 13) (kb true) (.t 17), none⟩, ⟨some 19, .mv (.t 18), none⟩, ⟨some 20, .fa 3 (.t 1), some (19, false)⟩, ⟨some 21, .ld false 1 (.t 20), some (19, false)⟩, ⟨some 22, .bin .eql (.t 21) (ki 0), some (19, false)⟩, ⟨some 23, .fa 4 (.t 1), some (19, false)⟩, ⟨some 24, .ld false 1 (.t 23), some (19, false)⟩, ⟨some 25, .bin .eql (.t 24) (ki 0), some (19, false)⟩, ⟨some 26, .eqb true (.t 22) (.t 25), some (19, false)⟩, ⟨some 27, .pick (.t 19) (kb true) (.t 26), none⟩])
 (.cond (.t 27)
 (.seq (.reg false [⟨some 2, .mv (ki 1), none⟩])
 .ret)
 .skip))
 (.seq (.seq (.reg false [⟨some 28, .fa 5 (.t 1), none⟩, ⟨some 29, .ld false 1 (.t 28), none⟩, ⟨some 30, .fa 4 (.t 1), none⟩, ⟨some 31, .ld false 1 (.t 30), none⟩, ⟨some 32, .call (kf 40) [(.t 29), (.t 31)], none⟩, ⟨some 33, .un .not (.t 32), none⟩, ⟨some 34, .mv (.t 33), none⟩, ⟨some 35, .fa 3 (.t 1), some (34, false)⟩, ⟨some 36, .ld false 1 (.t 35), some (34, false)⟩, ⟨some 37, .fa 5 (.t 1), some (34, false)⟩, ⟨some 38, .ld false 1 (.t 37), some (34, false)⟩, ⟨some 39, .len (.t 38), some (34, false)⟩, ⟨some 40, .bin .sub (ki 2147483647) (.t 39), some (34, false)⟩, ⟨some 41, .bin .gtr (.t 36) (.t 40), some (34, false)⟩, ⟨some 42, .pick (.t 34) (kb true) (.t 41), none⟩])
 (.cond (.t 42)
 (.seq (.reg false [⟨some 2, .mv (ki 1), none⟩])
 .ret)
 .skip))
 (.seq (.reg false [⟨some 2, .mv (ki 0), none⟩])
 .ret))))
abbrev n_pglog_Check : Nat := 35
theorem F_pglog_Check : Fun Try.prog n_pglog_Check 43 c_pglog_Check [.t 2] := ⟨⟨Try.f35, _, Try.func35, by kernel_rfl, rfl, rfl, by kernel_rfl, by kernel_rfl⟩⟩
/-- windrose/windroseref28.May -/
def c_windroseref28_May : C :=
 (.seq (.reg false [⟨some 1, .box 51 6 (.t 0), none⟩, ⟨some 2, .mv (kb false), none⟩])
 (.seq (.seq (.reg false [⟨some 3, .fa 0 (.t 1), none⟩, ⟨some 4, .ld true 3 (.t 3), none⟩, ⟨some 5, .call (kf 33) [(.t 4)], none⟩, ⟨some 6, .un .not (.t 5), none⟩, ⟨some 7, .mv (.t 6), none⟩, ⟨some 8, .fa 3 (.t 1), some (7, false)⟩, ⟨some 9, .ld false 1 (.t 8), some (7, false)⟩, ⟨some 10, .call (kf 28) [(.t 9), (ki 0)], some (7, false)⟩, ⟨some 11, .un .not (.t 10), some (7, false)⟩, ⟨some 12, .pick (.t 7) (kb true) (.t 11), none⟩, ⟨some 13, .mv (.t 12), none⟩, ⟨some 14, .fa 4 (.t 1), some (13, false)⟩, ⟨some 15, .ld false 1 (.t 14), some (13, false)⟩, ⟨some 16, .call (kf 28) [(.t 15), (ki 0)], some (13, false)⟩, ⟨some 17, .un .not (.t 16), some (13, false)⟩, ⟨some 18, .pick (.t 13) (kb true) (.t 17), none⟩, ⟨some 19, .mv (.t 18), none⟩, ⟨some 20, .fa 3 (.t 1), some (19, false)⟩, ⟨some 21, .ld false 1 (.t 20), some (19, false)⟩, ⟨some 22, .bin .eql (.t 21) (ki 0), some (19, false)⟩, ⟨some 23, .mv (.t 22), some (19, false)⟩, ⟨some 24, .fa 4 (.t 1), some (23, true)⟩, ⟨some 25, .ld false 1 (.t 24), some (23, true)⟩, ⟨some 26, .bin .neq (.t 25) (ki 0), some (23, true)⟩, ⟨some 27, .pick (.t 23) (.t 26) (kb false), some (19, false)⟩, ⟨some 28, .pick (.t 19) (kb true) (.t 27), none⟩, ⟨some 29, .mv (.t 28), none⟩, ⟨some 30, .fa 3 (.t 1), some (29, false)⟩, ⟨some 31, .ld false 1 (.t 30), some (29, false)⟩, ⟨some 32, .bin .neq (.t 31) (ki 0), some (29, false)⟩, ⟨some 33, .mv (.t 32), some (29, false)⟩, ⟨some 34, .fa 4 (.t 1), some (33, true)⟩, ⟨some 35, .ld false 1 (.t 34), some (33, true)⟩, ⟨some 36, .bin .eql (.t 35) (ki 0), some (33, true)⟩, ⟨some 37, .pick (.t 33) (.t 36) (kb false), some (29, false)⟩, ⟨some 38, .pick (.t 29) (kb true) (.t 37), none⟩])
 (.cond (.t 38)
 (.seq (.reg false [⟨some 2, .mv (kb false), none⟩])
 .ret)
 .skip))
 (.seq (.reg false [⟨some 39, .fa 5 (.t 1), none⟩, ⟨some 40, .ld false 1 (.t 39), none⟩, ⟨some 41, .fa 4 (.t 1), none⟩, ⟨some 42, .ld false 1 (.t 41), none⟩, ⟨some 43, .call (kf 34) [(.t 40), (.t 42)], none⟩, ⟨some 44, .mv (.t 43), none⟩, ⟨some 45, .fa 3 (.t 1), some (44, true)⟩, ⟨some 46, .ld false 1 (.t 45), some (44, true)⟩, ⟨some 47, .fa 5 (.t 1), some (44, true)⟩, ⟨some 48, .ld false 1 (.t 47), some (44, true)⟩, ⟨some 49, .len (.t 48), some (44, true)⟩, ⟨some 50, .bin .sub (ki 2147483647) (.t 49), some (44, true)⟩, ⟨some 51, .bin .leq (.t 46) (.t 50), some (44, true)⟩, ⟨some 52, .pick (.t 44) (.t 51) (kb false), none⟩, ⟨some 2, .mv (.t 52), none⟩])
 .ret)))
abbrev n_windroseref28_May : Nat := 14
theorem F_windroseref28_May : Fun Try.prog n_windroseref28_May 53 c_windroseref28_May [.t 2] := ⟨⟨Try.f14, _, Try.func14, by kernel_rfl, rfl, rfl, by kernel_rfl, by kernel_rfl⟩⟩
/-- windrose/pglog.End -/
def c_pglog_End : C :=
 (.seq (.reg false [⟨some 1, .box 51 6 (.t 0), none⟩, ⟨some 2, .mv (ki 0), none⟩])
 (.seq (.seq (.reg false [⟨some 3, .ld true 6 (.t 1), none⟩, ⟨some 4, .call (kf 35) [(.t 3)], none⟩, ⟨some 5, .bin .neq (.t 4) (ki 0), none⟩])
 (.cond (.t 5)
 (.seq (.reg false [⟨some 2, .mv (ki 0), none⟩])
 .ret)
 .skip))
 (.seq (.reg false [⟨some 6, .fa 3 (.t 1), none⟩, ⟨some 7, .ld false 1 (.t 6), none⟩, ⟨some 8, .fa 5 (.t 1), none⟩, ⟨some 9, .ld false 1 (.t 8), none⟩, ⟨some 10, .len (.t 9), none⟩, ⟨some 11, .bin .add (.t 7) (.t 10), none⟩, ⟨some 2, .mv (.t 11), none⟩])
 .ret)))
abbrev n_pglog_End : Nat := 21
theorem F_pglog_End : Fun Try.prog n_pglog_End 12 c_pglog_End [.t 2] := ⟨⟨Try.f21, _, Try.func21, by kernel_rfl, rfl, rfl, by kernel_rfl, by kernel_rfl⟩⟩
/-- windrose/pglog.Last -/
def c_pglog_Last : C :=
 (.seq (.reg false [⟨some 1, .box 51 6 (.t 0), none⟩, ⟨some 2, .mv (ki 0), none⟩])
 (.seq (.seq (.reg false [⟨some 3, .ld true 6 (.t 1), none⟩, ⟨some 4, .call (kf 35) [(.t 3)], none⟩, ⟨some 5, .bin .neq (.t 4) (ki 0), none⟩])
 (.cond (.t 5)
 (.seq (.reg false [⟨some 2, .mv (ki 0), none⟩])
 .ret)
 .skip))
 (.seq (.reg true [⟨some 6, .ld true 6 (.t 1), none⟩, ⟨some 7, .ld true 6 (.t 1), none⟩, ⟨some 8, .call (kf 21) [(.t 7)], none⟩, ⟨some 9, .call (kf 41) [(.t 6), (.t 8)], none⟩, ⟨some 2, .mv (.t 9), none⟩])
 .ret)))
abbrev n_pglog_Last : Nat := 24
theorem F_pglog_Last : Fun Try.prog n_pglog_Last 10 c_pglog_Last [.t 2] := ⟨⟨Try.f24, _, Try.func24, by kernel_rfl, rfl, rfl, by kernel_rfl, by kernel_rfl⟩⟩
/-- windrose/pglog.Epochs -/
def c_pglog_Epochs : C :=
 (.seq (.reg false [⟨some 1, .box 51 6 (.t 0), none⟩, ⟨some 2, .mv (.k (.one (.c (.v (.slice none 0 0))))), none⟩])
 (.seq (.reg false [⟨some 3, .mv (.k (.one (.c (.v (.slice none 0 0))))), none⟩])
 (.seq (.seq (.reg false [⟨some 6, .ld true 6 (.t 1), none⟩, ⟨some 7, .call (kf 35) [(.t 6)], none⟩, ⟨some 8, .bin .neq (.t 7) (ki 0), none⟩])
 (.cond (.t 8)
 (.seq (.reg false [⟨some 2, .mv (.k (.one (.c (.v (.slice none 0 0))))), none⟩])
 .ret)
 .skip))
 (.seq (.seq (.reg false [⟨some 9, .fa 5 (.t 1), none⟩, ⟨some 10, .ld false 1 (.t 9), none⟩, ⟨some 11, .len (.t 10), none⟩, ⟨some 12, .mv (ki 0), none⟩])
 (.block 0 (.loop (.seq (.reg false [⟨some 13, .bin .lss (.t 12) (.t 11), none⟩])
 (.seq (.cond (.t 13)
 .skip
 (.exit 0))
 (.seq (.block 1 (.seq (.reg false [⟨some 14, .ia 10 (.t 10) (.t 12), none⟩, ⟨some 15, .ld true 10 (.t 14), none⟩, ⟨some 5, .alloc 27 10 [.int .i64 0, .int .i64 0, .int .i64 0, .int .i64 0, .string ⟨#[]⟩, .int .i64 0, .int .i64 0, .int .i64 0, .int .i64 0, .int .i64 0], none⟩, ⟨none, .st 10 (.t 5) (.t 15), none⟩])
 (.reg false [⟨some 16, .mv (.t 3), none⟩, ⟨some 17, .fa 0 (.t 5), none⟩, ⟨some 18, .ld false 1 (.t 17), none⟩, ⟨some 19, .bsl 3 1 1 [.int .i64 0] [(0, (.t 18))], none⟩, ⟨some 20, .app 3 1 8 [.int .i64 0] (.t 16) (.t 19), none⟩, ⟨some 3, .mv (.t 20), none⟩])))
 (.reg false [⟨some 21, .bin .add (.t 12) (ki 1), none⟩, ⟨some 12, .mv (.t 21), none⟩])))))))
 (.seq (.reg false [⟨some 22, .mv (.t 3), none⟩, ⟨some 2, .mv (.t 22), none⟩])
 .ret)))))
abbrev n_pglog_Epochs : Nat := 16
theorem F_pglog_Epochs : Fun Try.prog n_pglog_Epochs 23 c_pglog_Epochs [.t 2] := ⟨⟨Try.f16, _, Try.func16, by kernel_rfl, rfl, rfl, by kernel_rfl, by kernel_rfl⟩⟩
/-- windrose/windroseref28.End -/
def c_windroseref28_End : C :=
 (.seq (.reg false [⟨some 1, .box 51 6 (.t 0), none⟩, ⟨some 2, .mv (ki 0), none⟩])
 (.seq (.reg false [⟨some 3, .fa 3 (.t 1), none⟩, ⟨some 4, .ld false 1 (.t 3), none⟩, ⟨some 5, .fa 5 (.t 1), none⟩, ⟨some 6, .ld false 1 (.t 5), none⟩, ⟨some 7, .len (.t 6), none⟩, ⟨some 8, .bin .add (.t 4) (.t 7), none⟩, ⟨some 2, .mv (.t 8), none⟩])
 .ret))
abbrev n_windroseref28_End : Nat := 20
theorem F_windroseref28_End : Fun Try.prog n_windroseref28_End 9 c_windroseref28_End [.t 2] := ⟨⟨Try.f20, _, Try.func20, by kernel_rfl, rfl, rfl, by kernel_rfl, by kernel_rfl⟩⟩
/-- windrose/pglog.Add -/
def c_pglog_Add : C :=
 (.seq (.reg false [⟨some 2, .box 51 6 (.t 0), none⟩, ⟨some 3, .box 27 10 (.t 1), none⟩, ⟨some 4, .alloc 51 6 [.slice none 0 0, .slice none 0 0, .int .i64 0, .int .i64 0, .int .i64 0, .slice none 0 0], none⟩, ⟨some 5, .mv (ki 0), none⟩])
 (.seq (.seq (.reg false [⟨some 6, .ld true 6 (.t 2), none⟩, ⟨some 7, .call (kf 35) [(.t 6)], none⟩, ⟨some 8, .bin .neq (.t 7) (ki 0), none⟩])
 (.cond (.t 8)
 (.seq (.reg false [⟨some 9, .bld [.slice none 0 0, .slice none 0 0, .int .i64 0, .int .i64 0, .int .i64 0, .slice none 0 0] [], none⟩, ⟨none, .st 6 (.t 4) (.t 9), none⟩, ⟨some 5, .mv (ki 1), none⟩])
 .ret)
 .skip))
 (.seq (.reg false [⟨some 10, .ld true 6 (.t 2), none⟩, ⟨some 11, .call (kf 39) [(.t 10)], none⟩, ⟨none, .st 6 (.t 2) (.t 11), none⟩])
 (.seq (.block 0 (.seq (.reg true [⟨some 13, .ld true 10 (.t 3), none⟩, ⟨some 14, .call (kf 9) [(.t 13)], none⟩, ⟨some 15, .bin .neq (.t 14) (ki 0), none⟩, ⟨some 16, .mv (.t 15), none⟩, ⟨some 17, .fa 0 (.t 3), some (16, false)⟩, ⟨some 18, .ld false 1 (.t 17), some (16, false)⟩, ⟨some 19, .ld true 6 (.t 2), some (16, false)⟩, ⟨some 20, .call (kf 24) [(.t 19)], some (16, false)⟩, ⟨some 21, .bin .lss (.t 18) (.t 20), some (16, false)⟩, ⟨some 22, .pick (.t 16) (kb true) (.t 21), none⟩, ⟨some 12, .mv (.t 22), none⟩])
 (.cond (.t 12)
 (.seq (.reg false [⟨some 23, .ld true 6 (.t 2), none⟩, ⟨none, .st 6 (.t 4) (.t 23), none⟩, ⟨some 5, .mv (ki 1), none⟩])
 .ret)
 (.seq (.reg false [⟨some 25, .fa 5 (.t 2), none⟩, ⟨some 26, .ld false 1 (.t 25), none⟩, ⟨some 27, .len (.t 26), none⟩, ⟨some 28, .bin .eql (.t 27) (ki 32), none⟩, ⟨some 29, .mv (.t 28), none⟩, ⟨some 30, .ld true 6 (.t 2), some (29, false)⟩, ⟨some 31, .call (kf 21) [(.t 30)], some (29, false)⟩, ⟨some 32, .bin .eql (.t 31) (ki 2147483647), some (29, false)⟩, ⟨some 33, .pick (.t 29) (kb true) (.t 32), none⟩, ⟨some 24, .mv (.t 33), none⟩])
 (.cond (.t 24)
 (.seq (.reg false [⟨some 34, .ld true 6 (.t 2), none⟩, ⟨none, .st 6 (.t 4) (.t 34), none⟩, ⟨some 5, .mv (ki 6), none⟩])
 .ret)
 .skip)))))
 (.seq (.reg false [⟨some 35, .fa 5 (.t 2), none⟩, ⟨some 36, .ld false 1 (.t 35), none⟩, ⟨some 37, .ld true 10 (.t 3), none⟩, ⟨some 38, .bsl 27 10 1 [.int .i64 0, .int .i64 0, .int .i64 0, .int .i64 0, .string ⟨#[]⟩, .int .i64 0, .int .i64 0, .int .i64 0, .int .i64 0, .int .i64 0] [(0, (.t 37))], none⟩, ⟨some 39, .app 27 10 88 [.int .i64 0, .int .i64 0, .int .i64 0, .int .i64 0, .string ⟨#[]⟩, .int .i64 0, .int .i64 0, .int .i64 0, .int .i64 0, .int .i64 0] (.t 36) (.t 38), none⟩, ⟨some 40, .fa 5 (.t 2), none⟩, ⟨none, .st 1 (.t 40) (.t 39), none⟩])
 (.seq (.reg false [⟨some 41, .ld true 6 (.t 2), none⟩, ⟨none, .st 6 (.t 4) (.t 41), none⟩, ⟨some 5, .mv (ki 0), none⟩])
 .ret))))))
abbrev n_pglog_Add : Nat := 22
theorem F_pglog_Add : Fun Try.prog n_pglog_Add 42 c_pglog_Add [.l true 6 4, .t 5] := ⟨⟨Try.f22, _, Try.func22, by kernel_rfl, rfl, rfl, by kernel_rfl, by kernel_rfl⟩⟩
/-- windrose/pglog.Cut -/
def c_pglog_Cut : C :=
 (.seq (.reg false [⟨some 2, .box 51 6 (.t 0), none⟩, ⟨some 4, .alloc 51 6 [.slice none 0 0, .slice none 0 0, .int .i64 0, .int .i64 0, .int .i64 0, .slice none 0 0], none⟩, ⟨some 5, .mv (ki 0), none⟩])
 (.seq (.seq (.reg false [⟨some 7, .ld true 6 (.t 2), none⟩, ⟨some 8, .call (kf 35) [(.t 7)], none⟩, ⟨some 9, .bin .neq (.t 8) (ki 0), none⟩])
 (.cond (.t 9)
 (.seq (.reg false [⟨some 10, .bld [.slice none 0 0, .slice none 0 0, .int .i64 0, .int .i64 0, .int .i64 0, .slice none 0 0] [], none⟩, ⟨none, .st 6 (.t 4) (.t 10), none⟩, ⟨some 5, .mv (ki 1), none⟩])
 .ret)
 .skip))
 (.seq (.reg false [⟨some 11, .ld true 6 (.t 2), none⟩, ⟨some 12, .call (kf 39) [(.t 11)], none⟩, ⟨none, .st 6 (.t 2) (.t 12), none⟩])
 (.seq (.seq (.reg false [⟨some 13, .ld true 6 (.t 2), none⟩, ⟨some 14, .mv (.t 1), none⟩, ⟨some 15, .call (kf 37) [(.t 13), (.t 14)], none⟩, ⟨some 6, .mv (.t 15), none⟩])
 (.seq (.reg false [⟨some 16, .mv (.t 6), none⟩, ⟨some 17, .bin .neq (.t 16) (ki 0), none⟩])
 (.cond (.t 17)
 (.seq (.reg false [⟨some 18, .ld true 6 (.t 2), none⟩, ⟨some 19, .mv (.t 6), none⟩, ⟨none, .st 6 (.t 4) (.t 18), none⟩, ⟨some 5, .mv (.t 19), none⟩])
 .ret)
 .skip)))
 (.seq (.reg false [⟨some 20, .fa 5 (.t 2), none⟩, ⟨some 21, .ld false 1 (.t 20), none⟩, ⟨some 22, .mv (.t 1), none⟩, ⟨some 23, .fa 3 (.t 2), none⟩, ⟨some 24, .ld false 1 (.t 23), none⟩, ⟨some 25, .bin .sub (.t 22) (.t 24), none⟩, ⟨some 26, .slc 10 (.t 21) none (some (.t 25)), none⟩, ⟨some 27, .call (kf 38) [(.t 26)], none⟩, ⟨some 28, .fa 5 (.t 2), none⟩, ⟨none, .st 1 (.t 28) (.t 27), none⟩])
 (.seq (.reg false [⟨some 29, .ld true 6 (.t 2), none⟩, ⟨none, .st 6 (.t 4) (.t 29), none⟩, ⟨some 5, .mv (ki 0), none⟩])
 .ret))))))
abbrev n_pglog_Cut : Nat := 18
theorem F_pglog_Cut : Fun Try.prog n_pglog_Cut 30 c_pglog_Cut [.l true 6 4, .t 5] := ⟨⟨Try.f18, _, Try.func18, by kernel_rfl, rfl, rfl, by kernel_rfl, by kernel_rfl⟩⟩
/-- windrose/windroselaw28.entry -/
def c_windroselaw28_entry : C :=
 (.seq (.reg false [⟨some 4, .alloc 27 10 [.int .i64 0, .int .i64 0, .int .i64 0, .int .i64 0, .string ⟨#[]⟩, .int .i64 0, .int .i64 0, .int .i64 0, .int .i64 0, .int .i64 0], none⟩])
 (.seq (.reg false [⟨some 5, .mv (.t 0), none⟩, ⟨some 6, .mv (.t 1), none⟩, ⟨some 7, .mv (.t 1), none⟩, ⟨some 8, .bld [.int .i64 0, .int .i64 0] [(0, 1, (.t 7)), (1, 1, (ki 1))], none⟩, ⟨some 9, .bld [.int .i64 0, .string ⟨#[]⟩, .int .i64 0, .int .i64 0, .int .i64 0, .int .i64 0, .int .i64 0] [(0, 1, (ki 1)), (1, 1, (.k (.one (.c (.v (.string ⟨#[97]⟩)))))), (2, 2, (.t 8))], none⟩, ⟨some 10, .bld [.int .i64 0, .int .i64 0, .int .i64 0, .int .i64 0, .string ⟨#[]⟩, .int .i64 0, .int .i64 0, .int .i64 0, .int .i64 0, .int .i64 0] [(0, 1, (.t 5)), (1, 1, (ki 1)), (2, 1, (.t 6)), (3, 7, (.t 9))], none⟩, ⟨none, .st 10 (.t 4) (.t 10), none⟩])
 .ret))
abbrev n_windroselaw28_entry : Nat := 23
theorem F_windroselaw28_entry : Fun Try.prog n_windroselaw28_entry 11 c_windroselaw28_entry [.l true 10 4] := ⟨⟨Try.f23, _, Try.func23, by kernel_rfl, rfl, rfl, by kernel_rfl, by kernel_rfl⟩⟩
/-- windrose/pglog.Alike -/
def c_pglog_Alike : C :=
 (.seq (.reg false [⟨some 4, .box 51 6 (.t 0), none⟩, ⟨some 8, .mv (ki 0), none⟩, ⟨some 9, .mv (kb false), none⟩])
 (.seq (.seq (.reg false [⟨some 23, .ld true 6 (.t 4), none⟩, ⟨some 24, .call (kf 35) [(.t 23)], none⟩, ⟨some 25, .bin .neq (.t 24) (ki 0), none⟩, ⟨some 26, .mv (.t 25), none⟩, ⟨some 27, .mv (.t 1), some (26, false)⟩, ⟨some 28, .call (kf 26) [(.t 27), (ki 0), (ki 2147483647)], some (26, false)⟩, ⟨some 29, .un .not (.t 28), some (26, false)⟩, ⟨some 30, .pick (.t 26) (kb true) (.t 29), none⟩, ⟨some 31, .mv (.t 30), none⟩, ⟨some 32, .mv (.t 3), some (31, false)⟩, ⟨some 33, .len (.t 32), some (31, false)⟩, ⟨some 34, .bin .gtr (.t 33) (ki 32), some (31, false)⟩, ⟨some 35, .pick (.t 31) (kb true) (.t 34), none⟩])
 (.cond (.t 35)
 (.seq (.reg false [⟨some 8, .mv (ki 0), none⟩, ⟨some 9, .mv (kb false), none⟩])
 .ret)
 .skip))
 (.seq (.rgx [[], [0], [], [2], [], [4], [1, 0, 3, 2, 5, 4], [], [], [], [7, 8, 9], [], [], [11, 6, 1, 0, 3, 2, 5, 4, 12], [12, 10, 7, 8, 9, 13, 11, 6, 1, 0, 3, 2, 5, 4]] [⟨some 36, .fa 3 (.t 4), none⟩, ⟨some 37, .ld false 1 (.t 36), none⟩, ⟨some 38, .fa 4 (.t 4), none⟩, ⟨some 39, .ld false 1 (.t 38), none⟩, ⟨some 40, .ld true 6 (.t 4), none⟩, ⟨some 41, .call (kf 16) [(.t 40)], none⟩, ⟨some 42, .bld [.int .i64 0, .int .i64 0, .slice none 0 0] [(0, 1, (.t 37)), (1, 1, (.t 39)), (2, 1, (.t 41))], none⟩, ⟨some 43, .mv (.t 1), none⟩, ⟨some 44, .mv (.t 2), none⟩, ⟨some 45, .mv (.t 3), none⟩, ⟨some 46, .bld [.int .i64 0, .int .i64 0, .slice none 0 0] [(0, 1, (.t 43)), (1, 1, (.t 44)), (2, 1, (.t 45))], none⟩, ⟨some 10, .alloc 76 3 [.int .i64 0, .int .i64 0, .slice none 0 0], none⟩, ⟨some 11, .alloc 76 3 [.int .i64 0, .int .i64 0, .slice none 0 0], none⟩, ⟨none, .st 3 (.t 10) (.t 42), none⟩, ⟨none, .st 3 (.t 11) (.t 46), none⟩])
 (.seq (.reg true [⟨some 47, .fa 0 (.t 10), none⟩, ⟨some 48, .ld false 1 (.t 47), none⟩, ⟨some 49, .fa 0 (.t 11), none⟩, ⟨some 50, .ld false 1 (.t 49), none⟩, ⟨some 51, .mx (.t 48) (.t 50), none⟩, ⟨some 52, .fa 0 (.t 10), none⟩, ⟨some 53, .ld false 1 (.t 52), none⟩, ⟨some 54, .fa 2 (.t 10), none⟩, ⟨some 55, .ld false 1 (.t 54), none⟩, ⟨some 56, .len (.t 55), none⟩, ⟨some 57, .bin .add (.t 53) (.t 56), none⟩, ⟨some 58, .fa 0 (.t 11), none⟩, ⟨some 59, .ld false 1 (.t 58), none⟩, ⟨some 60, .fa 2 (.t 11), none⟩, ⟨some 61, .ld false 1 (.t 60), none⟩, ⟨some 62, .len (.t 61), none⟩, ⟨some 63, .bin .add (.t 59) (.t 62), none⟩, ⟨some 64, .mn (.t 57) (.t 63), none⟩, ⟨some 12, .mv (.t 51), none⟩, ⟨some 13, .mv (.t 64), none⟩])
 (.seq (.reg false [⟨some 66, .ld true 3 (.t 10), none⟩, ⟨some 67, .mv (.t 12), none⟩, ⟨some 68, .call (kf 36) [(.t 66), (.t 67)], none⟩, ⟨some 65, .mv (.t 68), none⟩, ⟨some 69, .ex (.t 65) 0, none⟩, ⟨some 70, .ex (.t 65) 1, none⟩, ⟨some 14, .mv (.t 69), none⟩, ⟨some 15, .mv (.t 70), none⟩])
 (.seq (.reg false [⟨some 72, .ld true 3 (.t 11), none⟩, ⟨some 73, .mv (.t 12), none⟩, ⟨some 74, .call (kf 36) [(.t 72), (.t 73)], none⟩, ⟨some 71, .mv (.t 74), none⟩, ⟨some 75, .ex (.t 71) 0, none⟩, ⟨some 76, .ex (.t 71) 1, none⟩, ⟨some 16, .mv (.t 75), none⟩, ⟨some 17, .mv (.t 76), none⟩])
 (.seq (.seq (.reg false [⟨some 77, .mv (.t 12), none⟩, ⟨some 78, .mv (.t 13), none⟩, ⟨some 79, .bin .gtr (.t 77) (.t 78), none⟩, ⟨some 80, .mv (.t 79), none⟩, ⟨some 81, .mv (.t 15), some (80, false)⟩, ⟨some 82, .mv (.t 81), some (80, false)⟩, ⟨some 83, .mv (.t 17), some (82, true)⟩, ⟨some 84, .pick (.t 82) (.t 83) (kb false), some (80, false)⟩, ⟨some 85, .mv (.t 84), some (80, false)⟩, ⟨some 86, .mv (.t 14), some (85, true)⟩, ⟨some 87, .mv (.t 16), some (85, true)⟩, ⟨some 88, .bin .neq (.t 86) (.t 87), some (85, true)⟩, ⟨some 89, .pick (.t 85) (.t 88) (kb false), some (80, false)⟩, ⟨some 90, .pick (.t 80) (kb true) (.t 89), none⟩])
 (.cond (.t 90)
 (.seq (.reg false [⟨some 8, .mv (ki 0), none⟩, ⟨some 9, .mv (kb false), none⟩])
 .ret)
 .skip))
 (.seq (.seq (.reg false [⟨some 91, .mv (.t 12), none⟩, ⟨some 18, .mv (.t 91), none⟩])
 (.block 0 (.loop (.seq (.seq (.reg false [⟨some 92, .mv (.t 18), none⟩, ⟨some 93, .mv (.t 13), none⟩, ⟨some 94, .bin .lss (.t 92) (.t 93), none⟩])
 (.cond (.t 94)
 .skip
 (.exit 0)))
 (.seq (.block 1 (.seq (.reg false [⟨some 98, .ld true 3 (.t 10), none⟩, ⟨some 99, .mv (.t 18), none⟩, ⟨some 100, .bin .add (.t 99) (ki 1), none⟩, ⟨some 101, .call (kf 36) [(.t 98), (.t 100)], none⟩, ⟨some 97, .mv (.t 101), none⟩, ⟨some 102, .ex (.t 97) 0, none⟩, ⟨some 103, .ex (.t 97) 1, none⟩, ⟨some 19, .mv (.t 102), none⟩, ⟨some 20, .mv (.t 103), none⟩])
 (.seq (.reg false [⟨some 105, .ld true 3 (.t 11), none⟩, ⟨some 106, .mv (.t 18), none⟩, ⟨some 107, .bin .add (.t 106) (ki 1), none⟩, ⟨some 108, .call (kf 36) [(.t 105), (.t 107)], none⟩, ⟨some 104, .mv (.t 108), none⟩, ⟨some 109, .ex (.t 104) 0, none⟩, ⟨some 110, .ex (.t 104) 1, none⟩, ⟨some 21, .mv (.t 109), none⟩, ⟨some 22, .mv (.t 110), none⟩])
 (.seq (.reg false [⟨some 111, .mv (.t 19), none⟩, ⟨some 112, .mv (.t 21), none⟩, ⟨some 113, .bin .neq (.t 111) (.t 112), none⟩])
 (.cond (.t 113)
 (.seq (.reg false [⟨some 114, .mv (.t 18), none⟩, ⟨some 8, .mv (.t 114), none⟩, ⟨some 9, .mv (kb true), none⟩])
 .ret)
 .skip)))))
 (.reg false [⟨some 95, .mv (.t 18), none⟩, ⟨some 96, .bin .add (.t 95) (ki 1), none⟩, ⟨some 18, .mv (.t 96), none⟩]))))))
 (.seq (.reg false [⟨some 115, .mv (.t 13), none⟩, ⟨some 8, .mv (.t 115), none⟩, ⟨some 9, .mv (kb true), none⟩])
 .ret)))))))))
abbrev n_pglog_Alike : Nat := 15
theorem F_pglog_Alike : Fun Try.prog n_pglog_Alike 116 c_pglog_Alike [.t 8, .t 9] := ⟨⟨Try.f15, _, Try.func15, by kernel_rfl, rfl, rfl, by kernel_rfl, by kernel_rfl⟩⟩
/-- windrose/pglog.in -/
def c_pglog_in : C :=
 (.seq (.reg false [⟨some 6, .mv (kb false), none⟩])
 (.seq (.reg false [⟨some 7, .mv (.t 0), none⟩, ⟨some 8, .mv (.t 1), none⟩, ⟨some 9, .bin .geq (.t 7) (.t 8), none⟩, ⟨some 10, .mv (.t 9), none⟩, ⟨some 11, .mv (.t 0), some (10, true)⟩, ⟨some 12, .mv (.t 2), some (10, true)⟩, ⟨some 13, .bin .leq (.t 11) (.t 12), some (10, true)⟩, ⟨some 14, .pick (.t 10) (.t 13) (kb false), none⟩, ⟨some 6, .mv (.t 14), none⟩])
 .ret))
abbrev n_pglog_in : Nat := 26
theorem F_pglog_in : Fun Try.prog n_pglog_in 15 c_pglog_in [.t 6] := ⟨⟨Try.f26, _, Try.func26, by kernel_rfl, rfl, rfl, by kernel_rfl, by kernel_rfl⟩⟩
/-- windrose/pglog.entries -/
def c_pglog_entries : C :=
 (.seq (.reg false [⟨some 4, .mv (kb false), none⟩])
 (.seq (.seq (.reg false [⟨some 7, .mv (.t 0), none⟩, ⟨some 8, .len (.t 7), none⟩, ⟨some 9, .mv (ki 0), none⟩])
 (.block 0 (.loop (.seq (.reg false [⟨some 10, .bin .lss (.t 9) (.t 8), none⟩])
 (.seq (.cond (.t 10)
 .skip
 (.exit 0))
 (.seq (.block 1 (.seq (.reg false [⟨some 11, .ia 10 (.t 7) (.t 9), none⟩, ⟨some 12, .ld true 10 (.t 11), none⟩, ⟨some 6, .alloc 27 10 [.int .i64 0, .int .i64 0, .int .i64 0, .int .i64 0, .string ⟨#[]⟩, .int .i64 0, .int .i64 0, .int .i64 0, .int .i64 0, .int .i64 0], none⟩, ⟨none, .st 10 (.t 6) (.t 12), none⟩])
 (.seq (.seq (.reg false [⟨some 13, .ld true 10 (.t 6), none⟩, ⟨some 14, .call (kf 9) [(.t 13)], none⟩, ⟨some 15, .bin .neq (.t 14) (ki 0), none⟩, ⟨some 16, .mv (.t 15), none⟩, ⟨some 17, .fa 0 (.t 6), some (16, false)⟩, ⟨some 18, .ld false 1 (.t 17), some (16, false)⟩, ⟨some 19, .mv (.t 1), some (16, false)⟩, ⟨some 20, .bin .lss (.t 18) (.t 19), some (16, false)⟩, ⟨some 21, .pick (.t 16) (kb true) (.t 20), none⟩])
 (.cond (.t 21)
 (.seq (.reg false [⟨some 4, .mv (kb false), none⟩])
 .ret)
 .skip))
 (.reg false [⟨some 22, .fa 0 (.t 6), none⟩, ⟨some 23, .ld false 1 (.t 22), none⟩, ⟨some 1, .mv (.t 23), none⟩]))))
 (.reg false [⟨some 24, .bin .add (.t 9) (ki 1), none⟩, ⟨some 9, .mv (.t 24), none⟩])))))))
 (.seq (.reg false [⟨some 25, .mv (.t 0), none⟩, ⟨some 26, .len (.t 25), none⟩, ⟨some 27, .bin .leq (.t 26) (ki 32), none⟩, ⟨some 4, .mv (.t 27), none⟩])
 .ret)))
abbrev n_pglog_entries : Nat := 40
theorem F_pglog_entries : Fun Try.prog n_pglog_entries 28 c_pglog_entries [.t 4] := ⟨⟨Try.f40, _, Try.func40, by kernel_rfl, rfl, rfl, by kernel_rfl, by kernel_rfl⟩⟩
/-- windrose/windroseref28.in -/
def c_windroseref28_in : C :=
 (.seq (.reg false [⟨some 4, .mv (kb false), none⟩])
 (.seq (.reg false [⟨some 5, .mv (.t 0), none⟩, ⟨some 6, .mv (.t 1), none⟩, ⟨some 7, .bin .geq (.t 5) (.t 6), none⟩, ⟨some 8, .mv (.t 7), none⟩, ⟨some 9, .mv (.t 0), some (8, true)⟩, ⟨some 10, .bin .lss (.t 9) (ki 2147483648), some (8, true)⟩, ⟨some 11, .pick (.t 8) (.t 10) (kb false), none⟩, ⟨some 4, .mv (.t 11), none⟩])
 .ret))
abbrev n_windroseref28_in : Nat := 28
theorem F_windroseref28_in : Fun Try.prog n_windroseref28_in 12 c_windroseref28_in [.t 4] := ⟨⟨Try.f28, _, Try.func28, by kernel_rfl, rfl, rfl, by kernel_rfl, by kernel_rfl⟩⟩
/-- windrose/windroseref28.Entries -/
def c_windroseref28_Entries : C :=
 (.seq (.reg false [⟨some 4, .mv (kb false), none⟩])
 (.seq (.seq (.reg false [⟨some 5, .mv (ki 0), none⟩])
 (.block 0 (.loop (.seq (.seq (.reg false [⟨some 6, .mv (.t 5), none⟩, ⟨some 7, .mv (.t 0), none⟩, ⟨some 8, .len (.t 7), none⟩, ⟨some 9, .bin .lss (.t 6) (.t 8), none⟩])
 (.cond (.t 9)
 .skip
 (.exit 0)))
 (.seq (.block 1 (.seq (.seq (.reg false [⟨some 12, .mv (.t 0), none⟩, ⟨some 13, .mv (.t 5), none⟩, ⟨some 14, .ia 10 (.t 12) (.t 13), none⟩, ⟨some 15, .ld true 10 (.t 14), none⟩, ⟨some 16, .call (kf 10) [(.t 15)], none⟩, ⟨some 17, .un .not (.t 16), none⟩, ⟨some 18, .mv (.t 17), none⟩, ⟨some 19, .mv (.t 0), some (18, false)⟩, ⟨some 20, .mv (.t 5), some (18, false)⟩, ⟨some 21, .ia 10 (.t 19) (.t 20), some (18, false)⟩, ⟨some 22, .fa 0 (.t 21), some (18, false)⟩, ⟨some 23, .ld false 1 (.t 22), some (18, false)⟩, ⟨some 24, .mv (.t 1), some (18, false)⟩, ⟨some 25, .bin .lss (.t 23) (.t 24), some (18, false)⟩, ⟨some 26, .pick (.t 18) (kb true) (.t 25), none⟩])
 (.cond (.t 26)
 (.seq (.reg false [⟨some 4, .mv (kb false), none⟩])
 .ret)
 .skip))
 (.reg false [⟨some 27, .mv (.t 0), none⟩, ⟨some 28, .mv (.t 5), none⟩, ⟨some 29, .ia 10 (.t 27) (.t 28), none⟩, ⟨some 30, .fa 0 (.t 29), none⟩, ⟨some 31, .ld false 1 (.t 30), none⟩, ⟨some 1, .mv (.t 31), none⟩])))
 (.reg false [⟨some 10, .mv (.t 5), none⟩, ⟨some 11, .bin .add (.t 10) (ki 1), none⟩, ⟨some 5, .mv (.t 11), none⟩]))))))
 (.seq (.reg false [⟨some 32, .mv (.t 0), none⟩, ⟨some 33, .len (.t 32), none⟩, ⟨some 34, .bin .leq (.t 33) (ki 32), none⟩, ⟨some 4, .mv (.t 34), none⟩])
 .ret)))
abbrev n_windroseref28_Entries : Nat := 34
theorem F_windroseref28_Entries : Fun Try.prog n_windroseref28_Entries 35 c_windroseref28_Entries [.t 4] := ⟨⟨Try.f34, _, Try.func34, by kernel_rfl, rfl, rfl, by kernel_rfl, by kernel_rfl⟩⟩
/-- windrose/pglog.before -/
def c_pglog_before : C :=
 (.seq (.reg false [⟨some 2, .box 51 6 (.t 0), none⟩, ⟨some 4, .mv (ki 0), none⟩])
 (.seq (.seq (.reg false [⟨some 5, .mv (.t 1), none⟩, ⟨some 6, .fa 3 (.t 2), none⟩, ⟨some 7, .ld false 1 (.t 6), none⟩, ⟨some 8, .bin .eql (.t 5) (.t 7), none⟩])
 (.cond (.t 8)
 (.seq (.reg false [⟨some 9, .fa 4 (.t 2), none⟩, ⟨some 10, .ld false 1 (.t 9), none⟩, ⟨some 4, .mv (.t 10), none⟩])
 .ret)
 .skip))
 (.seq (.reg false [⟨some 11, .fa 5 (.t 2), none⟩, ⟨some 12, .ld false 1 (.t 11), none⟩, ⟨some 13, .mv (.t 1), none⟩, ⟨some 14, .fa 3 (.t 2), none⟩, ⟨some 15, .ld false 1 (.t 14), none⟩, ⟨some 16, .bin .sub (.t 13) (.t 15), none⟩, ⟨some 17, .bin .sub (.t 16) (ki 1), none⟩, ⟨some 18, .ia 10 (.t 12) (.t 17), none⟩, ⟨some 19, .fa 0 (.t 18), none⟩, ⟨some 20, .ld false 1 (.t 19), none⟩, ⟨some 4, .mv (.t 20), none⟩])
 .ret)))
abbrev n_pglog_before : Nat := 41
theorem F_pglog_before : Fun Try.prog n_pglog_before 21 c_pglog_before [.t 4] := ⟨⟨Try.f41, _, Try.func41, by kernel_rfl, rfl, rfl, by kernel_rfl, by kernel_rfl⟩⟩
/-- windrose/pglog.copied -/
def c_pglog_copied : C :=
 (.seq (.reg false [⟨some 1, .box 48 3 (.t 0), none⟩, ⟨some 2, .alloc 48 3 [.slice none 0 0, .slice none 0 0, .int .i64 0], none⟩])
 (.seq (.reg true [⟨some 5, .fa 0 (.t 1), none⟩, ⟨some 6, .ld false 1 (.t 5), none⟩, ⟨some 7, .call (kf 56) [(.t 6)], none⟩, ⟨some 8, .fa 1 (.t 1), none⟩, ⟨some 9, .ld false 1 (.t 8), none⟩, ⟨some 10, .call (kf 57) [(.t 9)], none⟩, ⟨some 11, .fa 0 (.t 1), none⟩, ⟨none, .st 1 (.t 11) (.t 7), none⟩, ⟨some 12, .fa 1 (.t 1), none⟩, ⟨none, .st 1 (.t 12) (.t 10), none⟩])
 (.seq (.seq (.reg false [⟨some 13, .fa 0 (.t 1), none⟩, ⟨some 14, .ld false 1 (.t 13), none⟩, ⟨some 15, .len (.t 14), none⟩, ⟨some 16, .mv (ki 0), none⟩])
 (.block 0 (.loop (.seq (.reg false [⟨some 17, .bin .lss (.t 16) (.t 15), none⟩])
 (.seq (.cond (.t 17)
 .skip
 (.exit 0))
 (.seq (.block 1 (.seq (.reg false [⟨some 18, .mv (.t 16), none⟩, ⟨some 19, .ia 2 (.t 14) (.t 16), none⟩, ⟨some 20, .ld true 2 (.t 19), none⟩, ⟨some 4, .alloc 87 2 [.string ⟨#[]⟩, .slice none 0 0], none⟩, ⟨some 3, .mv (.t 18), none⟩, ⟨none, .st 2 (.t 4) (.t 20), none⟩])
 (.reg true [⟨some 21, .fa 0 (.t 1), none⟩, ⟨some 22, .ld false 1 (.t 21), none⟩, ⟨some 23, .mv (.t 3), none⟩, ⟨some 24, .fa 1 (.t 4), none⟩, ⟨some 25, .ld false 1 (.t 24), none⟩, ⟨some 26, .call (kf 58) [(.t 25)], none⟩, ⟨some 27, .ia 2 (.t 22) (.t 23), none⟩, ⟨some 28, .fa 1 (.t 27), none⟩, ⟨none, .st 1 (.t 28) (.t 26), none⟩])))
 (.reg false [⟨some 29, .bin .add (.t 16) (ki 1), none⟩, ⟨some 16, .mv (.t 29), none⟩])))))))
 (.seq (.reg false [⟨some 30, .ld true 3 (.t 1), none⟩, ⟨none, .st 3 (.t 2) (.t 30), none⟩])
 .ret))))
abbrev n_pglog_copied : Nat := 51
theorem F_pglog_copied : Fun Try.prog n_pglog_copied 31 c_pglog_copied [.l true 3 2] := ⟨⟨Try.f51, _, Try.func51, by kernel_rfl, rfl, rfl, by kernel_rfl, by kernel_rfl⟩⟩
/-- windrose/pglog.own -/
def c_pglog_own : C :=
 (.seq (.reg false [⟨some 1, .box 51 6 (.t 0), none⟩, ⟨some 2, .alloc 51 6 [.slice none 0 0, .slice none 0 0, .int .i64 0, .int .i64 0, .int .i64 0, .slice none 0 0], none⟩])
 (.seq (.reg true [⟨some 3, .fa 0 (.t 1), none⟩, ⟨some 4, .ld true 3 (.t 3), none⟩, ⟨some 5, .call (kf 51) [(.t 4)], none⟩, ⟨some 6, .fa 5 (.t 1), none⟩, ⟨some 7, .ld false 1 (.t 6), none⟩, ⟨some 8, .call (kf 38) [(.t 7)], none⟩, ⟨some 9, .fa 0 (.t 1), none⟩, ⟨none, .st 3 (.t 9) (.t 5), none⟩, ⟨some 10, .fa 5 (.t 1), none⟩, ⟨none, .st 1 (.t 10) (.t 8), none⟩])
 (.seq (.reg false [⟨some 11, .ld true 6 (.t 1), none⟩, ⟨none, .st 6 (.t 2) (.t 11), none⟩])
 .ret)))
abbrev n_pglog_own : Nat := 39
theorem F_pglog_own : Fun Try.prog n_pglog_own 12 c_pglog_own [.l true 6 2] := ⟨⟨Try.f39, _, Try.func39, by kernel_rfl, rfl, rfl, by kernel_rfl, by kernel_rfl⟩⟩
/-- windrose/pglog.CheckEntry -/
def c_pglog_CheckEntry : C :=
 (.seq (.reg false [⟨some 1, .box 27 10 (.t 0), none⟩, ⟨some 2, .mv (ki 0), none⟩])
 (.seq (.seq (.reg false [⟨some 3, .fa 0 (.t 1), none⟩, ⟨some 4, .ld false 1 (.t 3), none⟩, ⟨some 5, .call (kf 26) [(.t 4), (ki 1), (ki 2147483647)], none⟩, ⟨some 6, .un .not (.t 5), none⟩, ⟨some 7, .mv (.t 6), none⟩, ⟨some 8, .fa 1 (.t 1), some (7, false)⟩, ⟨some 9, .ld false 1 (.t 8), some (7, false)⟩, ⟨some 10, .call (kf 26) [(.t 9), (ki 0), (ki 2147483647)], some (7, false)⟩, ⟨some 11, .un .not (.t 10), some (7, false)⟩, ⟨some 12, .pick (.t 7) (kb true) (.t 11), none⟩, ⟨some 13, .mv (.t 12), none⟩, ⟨some 14, .fa 2 (.t 1), some (13, false)⟩, ⟨some 15, .ld false 1 (.t 14), some (13, false)⟩, ⟨some 16, .call (kf 26) [(.t 15), (ki 1), (ki 2147483647)], some (13, false)⟩, ⟨some 17, .un .not (.t 16), some (13, false)⟩, ⟨some 18, .pick (.t 13) (kb true) (.t 17), none⟩])
 (.cond (.t 18)
 (.seq (.reg false [⟨some 2, .mv (ki 1), none⟩])
 .ret)
 .skip))
 (.seq (.reg false [⟨some 19, .fa 3 (.t 1), none⟩, ⟨some 20, .ld true 7 (.t 19), none⟩, ⟨some 21, .call (kf 27) [(.t 20)], none⟩, ⟨some 2, .mv (.t 21), none⟩])
 .ret)))
abbrev n_pglog_CheckEntry : Nat := 9
theorem F_pglog_CheckEntry : Fun Try.prog n_pglog_CheckEntry 22 c_pglog_CheckEntry [.t 2] := ⟨⟨Try.f9, _, Try.func9, by kernel_rfl, rfl, rfl, by kernel_rfl, by kernel_rfl⟩⟩
/-- windrose/pglog.place -/
def c_pglog_place : C :=
 (.seq (.reg false [⟨some 2, .box 51 6 (.t 0), none⟩, ⟨some 4, .mv (ki 0), none⟩])
 (.seq (.block 0 (.seq (.reg false [⟨some 6, .mv (.t 1), none⟩, ⟨some 7, .fa 3 (.t 2), none⟩, ⟨some 8, .ld false 1 (.t 7), none⟩, ⟨some 9, .bin .lss (.t 6) (.t 8), none⟩, ⟨some 5, .mv (.t 9), none⟩])
 (.cond (.t 5)
 (.seq (.reg false [⟨some 4, .mv (ki 9), none⟩])
 .ret)
 (.seq (.reg false [⟨some 11, .mv (.t 1), none⟩, ⟨some 12, .ld true 6 (.t 2), none⟩, ⟨some 13, .call (kf 21) [(.t 12)], none⟩, ⟨some 14, .bin .gtr (.t 11) (.t 13), none⟩, ⟨some 10, .mv (.t 14), none⟩])
 (.cond (.t 10)
 (.seq (.reg false [⟨some 4, .mv (ki 5), none⟩])
 .ret)
 .skip)))))
 (.seq (.reg false [⟨some 4, .mv (ki 0), none⟩])
 .ret)))
abbrev n_pglog_place : Nat := 37
theorem F_pglog_place : Fun Try.prog n_pglog_place 15 c_pglog_place [.t 4] := ⟨⟨Try.f37, _, Try.func37, by kernel_rfl, rfl, rfl, by kernel_rfl, by kernel_rfl⟩⟩
/-- slices.Clone[[]windrose/api.Entry,windrose/api.Entry] -/
def c_slices_Clone_api_Entry_api_Entry : C :=
 (.seq (.reg false [⟨some 2, .mv (.k (.one (.c (.v (.slice none 0 0))))), none⟩])
 (.seq (.seq (.reg false [⟨some 3, .mv (.t 0), none⟩, ⟨some 4, .eqb false (.t 3) (.k (.one (.c (.v (.slice none 0 0))))), none⟩])
 (.cond (.t 4)
 (.seq (.reg false [⟨some 2, .mv (.k (.one (.c (.v (.slice none 0 0))))), none⟩])
 .ret)
 .skip))
 (.seq (.reg false [⟨some 5, .bsl 27 10 0 [.int .i64 0, .int .i64 0, .int .i64 0, .int .i64 0, .string ⟨#[]⟩, .int .i64 0, .int .i64 0, .int .i64 0, .int .i64 0, .int .i64 0] [], none⟩, ⟨some 6, .mv (.t 0), none⟩, ⟨some 7, .app 27 10 88 [.int .i64 0, .int .i64 0, .int .i64 0, .int .i64 0, .string ⟨#[]⟩, .int .i64 0, .int .i64 0, .int .i64 0, .int .i64 0, .int .i64 0] (.t 5) (.t 6), none⟩, ⟨some 2, .mv (.t 7), none⟩])
 .ret)))
abbrev n_slices_Clone_api_Entry_api_Entry : Nat := 38
theorem F_slices_Clone_api_Entry_api_Entry : Fun Try.prog n_slices_Clone_api_Entry_api_Entry 8 c_slices_Clone_api_Entry_api_Entry [.t 2] := ⟨⟨Try.f38, _, Try.func38, by kernel_rfl, rfl, rfl, by kernel_rfl, by kernel_rfl⟩⟩
/-- windrose/windroseref28.Entry -/
def c_windroseref28_Entry : C :=
 (.seq (.reg false [⟨some 1, .box 27 10 (.t 0), none⟩, ⟨some 2, .mv (kb false), none⟩])
 (.seq (.reg false [⟨some 3, .fa 0 (.t 1), none⟩, ⟨some 4, .ld false 1 (.t 3), none⟩, ⟨some 5, .call (kf 28) [(.t 4), (ki 1)], none⟩, ⟨some 6, .mv (.t 5), none⟩, ⟨some 7, .fa 1 (.t 1), some (6, true)⟩, ⟨some 8, .ld false 1 (.t 7), some (6, true)⟩, ⟨some 9, .call (kf 28) [(.t 8), (ki 0)], some (6, true)⟩, ⟨some 10, .pick (.t 6) (.t 9) (kb false), none⟩, ⟨some 11, .mv (.t 10), none⟩, ⟨some 12, .fa 2 (.t 1), some (11, true)⟩, ⟨some 13, .ld false 1 (.t 12), some (11, true)⟩, ⟨some 14, .call (kf 28) [(.t 13), (ki 1)], some (11, true)⟩, ⟨some 15, .pick (.t 11) (.t 14) (kb false), none⟩, ⟨some 16, .mv (.t 15), none⟩, ⟨some 17, .fa 3 (.t 1), some (16, true)⟩, ⟨some 18, .ld true 7 (.t 17), some (16, true)⟩, ⟨some 19, .call (kf 29) [(.t 18)], some (16, true)⟩, ⟨some 20, .pick (.t 16) (.t 19) (kb false), none⟩, ⟨some 2, .mv (.t 20), none⟩])
 .ret))
abbrev n_windroseref28_Entry : Nat := 10
theorem F_windroseref28_Entry : Fun Try.prog n_windroseref28_Entry 21 c_windroseref28_Entry [.t 2] := ⟨⟨Try.f10, _, Try.func10, by kernel_rfl, rfl, rfl, by kernel_rfl, by kernel_rfl⟩⟩
/-- (windrose/pglog.other).before -/
def c_pglog_other_before : C :=
 (.seq (.reg false [⟨some 2, .box 76 3 (.t 0), none⟩, ⟨some 4, .mv (ki 0), none⟩, ⟨some 5, .mv (kb false), none⟩])
 (.seq (.seq (.reg false [⟨some 7, .mv (.t 1), none⟩, ⟨some 8, .fa 0 (.t 2), none⟩, ⟨some 9, .ld false 1 (.t 8), none⟩, ⟨some 10, .bin .sub (.t 7) (.t 9), none⟩, ⟨some 6, .mv (.t 10), none⟩])
 (.block 0 (.seq (.reg false [⟨some 12, .mv (.t 6), none⟩, ⟨some 13, .bin .eql (.t 12) (ki 0), none⟩, ⟨some 11, .mv (.t 13), none⟩])
 (.cond (.t 11)
 (.seq (.reg false [⟨some 14, .fa 1 (.t 2), none⟩, ⟨some 15, .ld false 1 (.t 14), none⟩, ⟨some 16, .mv (.t 1), none⟩, ⟨some 17, .bin .gtr (.t 16) (ki 0), none⟩, ⟨some 4, .mv (.t 15), none⟩, ⟨some 5, .mv (.t 17), none⟩])
 .ret)
 (.seq (.reg false [⟨some 19, .mv (.t 6), none⟩, ⟨some 20, .bin .gtr (.t 19) (ki 0), none⟩, ⟨some 21, .mv (.t 20), none⟩, ⟨some 22, .mv (.t 6), some (21, true)⟩, ⟨some 23, .fa 2 (.t 2), some (21, true)⟩, ⟨some 24, .ld false 1 (.t 23), some (21, true)⟩, ⟨some 25, .len (.t 24), some (21, true)⟩, ⟨some 26, .bin .leq (.t 22) (.t 25), some (21, true)⟩, ⟨some 27, .pick (.t 21) (.t 26) (kb false), none⟩, ⟨some 18, .mv (.t 27), none⟩])
 (.cond (.t 18)
 (.seq (.reg false [⟨some 28, .fa 2 (.t 2), none⟩, ⟨some 29, .ld false 1 (.t 28), none⟩, ⟨some 30, .mv (.t 6), none⟩, ⟨some 31, .bin .sub (.t 30) (ki 1), none⟩, ⟨some 32, .ia 1 (.t 29) (.t 31), none⟩, ⟨some 33, .ld false 1 (.t 32), none⟩, ⟨some 4, .mv (.t 33), none⟩, ⟨some 5, .mv (kb true), none⟩])
 .ret)
 .skip))))))
 (.seq (.reg false [⟨some 4, .mv (ki 0), none⟩, ⟨some 5, .mv (kb false), none⟩])
 .ret)))
abbrev n_pglog_other_before : Nat := 36
theorem F_pglog_other_before : Fun Try.prog n_pglog_other_before 34 c_pglog_other_before [.t 4, .t 5] := ⟨⟨Try.f36, _, Try.func36, by kernel_rfl, rfl, rfl, by kernel_rfl, by kernel_rfl⟩⟩
/-- windrose/pglog.From -/
def c_pglog_From : C :=
 (.seq (.reg false [⟨some 3, .box 51 6 (.t 0), none⟩, ⟨some 6, .mv (.k (.one (.c (.v (.slice none 0 0))))), none⟩, ⟨some 7, .mv (ki 0), none⟩])
 (.seq (.seq (.reg false [⟨some 10, .ld true 6 (.t 3), none⟩, ⟨some 11, .call (kf 35) [(.t 10)], none⟩, ⟨some 12, .bin .neq (.t 11) (ki 0), none⟩, ⟨some 13, .mv (.t 12), none⟩, ⟨some 14, .mv (.t 2), some (13, false)⟩, ⟨some 15, .call (kf 26) [(.t 14), (ki 1), (ki 32)], some (13, false)⟩, ⟨some 16, .un .not (.t 15), some (13, false)⟩, ⟨some 17, .pick (.t 13) (kb true) (.t 16), none⟩])
 (.cond (.t 17)
 (.seq (.reg false [⟨some 6, .mv (.k (.one (.c (.v (.slice none 0 0))))), none⟩, ⟨some 7, .mv (ki 1), none⟩])
 .ret)
 .skip))
 (.seq (.seq (.reg false [⟨some 18, .ld true 6 (.t 3), none⟩, ⟨some 19, .mv (.t 1), none⟩, ⟨some 20, .call (kf 37) [(.t 18), (.t 19)], none⟩, ⟨some 8, .mv (.t 20), none⟩])
 (.seq (.reg false [⟨some 21, .mv (.t 8), none⟩, ⟨some 22, .bin .neq (.t 21) (ki 0), none⟩])
 (.cond (.t 22)
 (.seq (.reg false [⟨some 23, .mv (.t 8), none⟩, ⟨some 6, .mv (.k (.one (.c (.v (.slice none 0 0))))), none⟩, ⟨some 7, .mv (.t 23), none⟩])
 .ret)
 .skip)))
 (.seq (.reg false [⟨some 24, .fa 5 (.t 3), none⟩, ⟨some 25, .ld false 1 (.t 24), none⟩, ⟨some 26, .mv (.t 1), none⟩, ⟨some 27, .fa 3 (.t 3), none⟩, ⟨some 28, .ld false 1 (.t 27), none⟩, ⟨some 29, .bin .sub (.t 26) (.t 28), none⟩, ⟨some 30, .slc 10 (.t 25) (some (.t 29)) none, none⟩, ⟨some 9, .mv (.t 30), none⟩])
 (.seq (.reg false [⟨some 31, .mv (.t 9), none⟩, ⟨some 32, .mv (.t 2), none⟩, ⟨some 33, .mv (.t 9), none⟩, ⟨some 34, .len (.t 33), none⟩, ⟨some 35, .mn (.t 32) (.t 34), none⟩, ⟨some 36, .slc 10 (.t 31) none (some (.t 35)), none⟩, ⟨some 37, .call (kf 38) [(.t 36)], none⟩, ⟨some 6, .mv (.t 37), none⟩, ⟨some 7, .mv (ki 0), none⟩])
 .ret)))))
abbrev n_pglog_From : Nat := 17
theorem F_pglog_From : Fun Try.prog n_pglog_From 38 c_pglog_From [.t 6, .t 7] := ⟨⟨Try.f17, _, Try.func17, by kernel_rfl, rfl, rfl, by kernel_rfl, by kernel_rfl⟩⟩
/-- windrose/pglog.Put -/
def c_pglog_Put : C :=
 (.seq (.reg false [⟨some 3, .box 51 6 (.t 0), none⟩, ⟨some 6, .alloc 51 6 [.slice none 0 0, .slice none 0 0, .int .i64 0, .int .i64 0, .int .i64 0, .slice none 0 0], none⟩, ⟨some 7, .mv (kb false), none⟩, ⟨some 8, .mv (ki 0), none⟩])
 (.seq (.seq (.reg false [⟨some 11, .ld true 6 (.t 3), none⟩, ⟨some 12, .call (kf 35) [(.t 11)], none⟩, ⟨some 13, .bin .neq (.t 12) (ki 0), none⟩])
 (.cond (.t 13)
 (.seq (.reg false [⟨some 14, .bld [.slice none 0 0, .slice none 0 0, .int .i64 0, .int .i64 0, .int .i64 0, .slice none 0 0] [], none⟩, ⟨none, .st 6 (.t 6) (.t 14), none⟩, ⟨some 7, .mv (kb false), none⟩, ⟨some 8, .mv (ki 1), none⟩])
 .ret)
 .skip))
 (.seq (.reg false [⟨some 15, .ld true 6 (.t 3), none⟩, ⟨some 16, .call (kf 39) [(.t 15)], none⟩, ⟨none, .st 6 (.t 3) (.t 16), none⟩])
 (.seq (.seq (.reg false [⟨some 17, .mv (.t 2), none⟩, ⟨some 18, .call (kf 40) [(.t 17), (ki 0)], none⟩, ⟨some 19, .un .not (.t 18), none⟩])
 (.cond (.t 19)
 (.seq (.reg false [⟨some 20, .ld true 6 (.t 3), none⟩, ⟨none, .st 6 (.t 6) (.t 20), none⟩, ⟨some 7, .mv (kb false), none⟩, ⟨some 8, .mv (ki 1), none⟩])
 .ret)
 .skip))
 (.seq (.seq (.reg false [⟨some 21, .ld true 6 (.t 3), none⟩, ⟨some 22, .mv (.t 1), none⟩, ⟨some 23, .call (kf 37) [(.t 21), (.t 22)], none⟩, ⟨some 9, .mv (.t 23), none⟩])
 (.seq (.reg false [⟨some 24, .mv (.t 9), none⟩, ⟨some 25, .bin .neq (.t 24) (ki 0), none⟩])
 (.cond (.t 25)
 (.seq (.reg false [⟨some 26, .ld true 6 (.t 3), none⟩, ⟨some 27, .mv (.t 9), none⟩, ⟨none, .st 6 (.t 6) (.t 26), none⟩, ⟨some 7, .mv (kb false), none⟩, ⟨some 8, .mv (.t 27), none⟩])
 .ret)
 .skip)))
 (.seq (.seq (.reg false [⟨some 28, .mv (.t 2), none⟩, ⟨some 29, .len (.t 28), none⟩, ⟨some 30, .bin .eql (.t 29) (ki 0), none⟩])
 (.cond (.t 30)
 (.seq (.reg false [⟨some 31, .ld true 6 (.t 3), none⟩, ⟨none, .st 6 (.t 6) (.t 31), none⟩, ⟨some 7, .mv (kb false), none⟩, ⟨some 8, .mv (ki 5), none⟩])
 .ret)
 .skip))
 (.seq (.reg false [⟨some 32, .mv (.t 1), none⟩, ⟨some 33, .fa 3 (.t 3), none⟩, ⟨some 34, .ld false 1 (.t 33), none⟩, ⟨some 35, .bin .sub (.t 32) (.t 34), none⟩, ⟨some 10, .mv (.t 35), none⟩])
 (.seq (.block 0 (.loop (.seq (.seq (.reg true [⟨some 36, .mv (.t 2), none⟩, ⟨some 37, .len (.t 36), none⟩, ⟨some 38, .bin .gtr (.t 37) (ki 0), none⟩, ⟨some 39, .mv (.t 38), none⟩, ⟨some 40, .mv (.t 10), some (39, true)⟩, ⟨some 41, .fa 5 (.t 3), some (39, true)⟩, ⟨some 42, .ld false 1 (.t 41), some (39, true)⟩, ⟨some 43, .len (.t 42), some (39, true)⟩, ⟨some 44, .bin .lss (.t 40) (.t 43), some (39, true)⟩, ⟨some 45, .pick (.t 39) (.t 44) (kb false), none⟩, ⟨some 46, .mv (.t 45), none⟩, ⟨some 47, .fa 5 (.t 3), some (46, true)⟩, ⟨some 48, .ld false 1 (.t 47), some (46, true)⟩, ⟨some 49, .mv (.t 10), some (46, true)⟩, ⟨some 50, .ia 10 (.t 48) (.t 49), some (46, true)⟩, ⟨some 51, .fa 0 (.t 50), some (46, true)⟩, ⟨some 52, .ld false 1 (.t 51), some (46, true)⟩, ⟨some 53, .mv (.t 2), some (46, true)⟩, ⟨some 54, .ia 10 (.t 53) (ki 0), some (46, true)⟩, ⟨some 55, .fa 0 (.t 54), some (46, true)⟩, ⟨some 56, .ld false 1 (.t 55), some (46, true)⟩, ⟨some 57, .bin .eql (.t 52) (.t 56), some (46, true)⟩, ⟨some 58, .pick (.t 46) (.t 57) (kb false), none⟩])
 (.cond (.t 58)
 .skip
 (.exit 0)))
 (.block 1 (.reg true [⟨some 59, .mv (.t 10), none⟩, ⟨some 60, .bin .add (.t 59) (ki 1), none⟩, ⟨some 61, .mv (.t 2), none⟩, ⟨some 62, .slc 10 (.t 61) (some (ki 1)) none, none⟩, ⟨some 10, .mv (.t 60), none⟩, ⟨some 2, .mv (.t 62), none⟩])))))
 (.seq (.block 2 (.seq (.reg false [⟨some 64, .mv (.t 2), none⟩, ⟨some 65, .len (.t 64), none⟩, ⟨some 66, .bin .eql (.t 65) (ki 0), none⟩, ⟨some 63, .mv (.t 66), none⟩])
 (.cond (.t 63)
 (.seq (.reg false [⟨some 67, .ld true 6 (.t 3), none⟩, ⟨none, .st 6 (.t 6) (.t 67), none⟩, ⟨some 7, .mv (kb false), none⟩, ⟨some 8, .mv (ki 0), none⟩])
 .ret)
 (.seq (.reg true [⟨some 69, .mv (.t 2), none⟩, ⟨some 70, .ia 10 (.t 69) (ki 0), none⟩, ⟨some 71, .fa 0 (.t 70), none⟩, ⟨some 72, .ld false 1 (.t 71), none⟩, ⟨some 73, .ld true 6 (.t 3), none⟩, ⟨some 74, .fa 3 (.t 3), none⟩, ⟨some 75, .ld false 1 (.t 74), none⟩, ⟨some 76, .mv (.t 10), none⟩, ⟨some 77, .bin .add (.t 75) (.t 76), none⟩, ⟨some 78, .call (kf 41) [(.t 73), (.t 77)], none⟩, ⟨some 79, .bin .lss (.t 72) (.t 78), none⟩, ⟨some 68, .mv (.t 79), none⟩])
 (.cond (.t 68)
 (.seq (.reg false [⟨some 80, .ld true 6 (.t 3), none⟩, ⟨none, .st 6 (.t 6) (.t 80), none⟩, ⟨some 7, .mv (kb false), none⟩, ⟨some 8, .mv (ki 1), none⟩])
 .ret)
 (.seq (.reg false [⟨some 82, .mv (.t 10), none⟩, ⟨some 83, .mv (.t 2), none⟩, ⟨some 84, .len (.t 83), none⟩, ⟨some 85, .bin .sub (ki 32) (.t 84), none⟩, ⟨some 86, .bin .gtr (.t 82) (.t 85), none⟩, ⟨some 87, .mv (.t 86), none⟩, ⟨some 88, .fa 3 (.t 3), some (87, false)⟩, ⟨some 89, .ld false 1 (.t 88), some (87, false)⟩, ⟨some 90, .mv (.t 10), some (87, false)⟩, ⟨some 91, .bin .add (.t 89) (.t 90), some (87, false)⟩, ⟨some 92, .mv (.t 2), some (87, false)⟩, ⟨some 93, .len (.t 92), some (87, false)⟩, ⟨some 94, .bin .sub (ki 2147483647) (.t 93), some (87, false)⟩, ⟨some 95, .bin .gtr (.t 91) (.t 94), some (87, false)⟩, ⟨some 96, .pick (.t 87) (kb true) (.t 95), none⟩, ⟨some 81, .mv (.t 96), none⟩])
 (.cond (.t 81)
 (.seq (.reg false [⟨some 97, .ld true 6 (.t 3), none⟩, ⟨none, .st 6 (.t 6) (.t 97), none⟩, ⟨some 7, .mv (kb false), none⟩, ⟨some 8, .mv (ki 6), none⟩])
 .ret)
 .skip)))))))
 (.seq (.reg false [⟨some 98, .fa 5 (.t 3), none⟩, ⟨some 99, .ld false 1 (.t 98), none⟩, ⟨some 100, .mv (.t 10), none⟩, ⟨some 101, .mv (.t 10), none⟩, ⟨some 102, .s3f (.t 99) (.t 100) (.t 101), none⟩, ⟨some 103, .mv (.t 2), none⟩, ⟨some 104, .app 27 10 88 [.int .i64 0, .int .i64 0, .int .i64 0, .int .i64 0, .string ⟨#[]⟩, .int .i64 0, .int .i64 0, .int .i64 0, .int .i64 0, .int .i64 0] (.t 102) (.t 103), none⟩, ⟨some 105, .fa 5 (.t 3), none⟩, ⟨none, .st 1 (.t 105) (.t 104), none⟩])
 (.seq (.reg false [⟨some 106, .ld true 6 (.t 3), none⟩, ⟨none, .st 6 (.t 6) (.t 106), none⟩, ⟨some 7, .mv (kb true), none⟩, ⟨some 8, .mv (ki 0), none⟩])
 .ret)))))))))))
abbrev n_pglog_Put : Nat := 19
theorem F_pglog_Put : Fun Try.prog n_pglog_Put 107 c_pglog_Put [.l true 6 6, .t 7, .t 8] := ⟨⟨Try.f19, _, Try.func19, by kernel_rfl, rfl, rfl, by kernel_rfl, by kernel_rfl⟩⟩
/-- windrose/windroselaw28.PglogMeets -/
def c_windroselaw28_PglogMeets : C :=
 (.seq (.reg false [⟨some 2, .box 51 6 (.t 0), none⟩, ⟨some 3, .box 51 6 (.t 1), none⟩, ⟨some 4, .mv (kb false), none⟩])
 (.seq (.seq (.reg false [⟨some 13, .ld true 6 (.t 2), none⟩, ⟨some 14, .call (kf 13) [(.t 13)], none⟩, ⟨some 15, .un .not (.t 14), none⟩, ⟨some 16, .mv (.t 15), none⟩, ⟨some 17, .ld true 6 (.t 3), some (16, false)⟩, ⟨some 18, .call (kf 13) [(.t 17)], some (16, false)⟩, ⟨some 19, .un .not (.t 18), some (16, false)⟩, ⟨some 20, .pick (.t 16) (kb true) (.t 19), none⟩, ⟨some 21, .mv (.t 20), none⟩, ⟨some 22, .ld true 6 (.t 2), some (21, false)⟩, ⟨some 23, .call (kf 14) [(.t 22)], some (21, false)⟩, ⟨some 24, .un .not (.t 23), some (21, false)⟩, ⟨some 25, .pick (.t 21) (kb true) (.t 24), none⟩, ⟨some 26, .mv (.t 25), none⟩, ⟨some 27, .ld true 6 (.t 3), some (26, false)⟩, ⟨some 28, .call (kf 14) [(.t 27)], some (26, false)⟩, ⟨some 29, .un .not (.t 28), some (26, false)⟩, ⟨some 30, .pick (.t 26) (kb true) (.t 29), none⟩])
 (.cond (.t 30)
 (.seq (.reg false [⟨some 31, .call (kf 5) [], none⟩, ⟨some 4, .mv (.t 31), none⟩])
 .ret)
 .skip))
 (.seq (.reg true [⟨some 33, .ld true 6 (.t 3), none⟩, ⟨some 34, .fa 3 (.t 2), none⟩, ⟨some 35, .ld false 1 (.t 34), none⟩, ⟨some 36, .fa 4 (.t 2), none⟩, ⟨some 37, .ld false 1 (.t 36), none⟩, ⟨some 38, .ld true 6 (.t 2), none⟩, ⟨some 39, .call (kf 16) [(.t 38)], none⟩, ⟨some 40, .call (kf 15) [(.t 33), (.t 35), (.t 37), (.t 39)], none⟩, ⟨some 32, .mv (.t 40), none⟩, ⟨some 41, .ex (.t 32) 0, none⟩, ⟨some 42, .ex (.t 32) 1, none⟩, ⟨some 5, .mv (.t 41), none⟩, ⟨some 6, .mv (.t 42), none⟩])
 (.seq (.seq (.reg false [⟨some 43, .mv (.t 6), none⟩, ⟨some 44, .un .not (.t 43), none⟩, ⟨some 45, .mv (.t 44), none⟩, ⟨some 46, .mv (.t 5), some (45, false)⟩, ⟨some 47, .fa 3 (.t 2), some (45, false)⟩, ⟨some 48, .ld false 1 (.t 47), some (45, false)⟩, ⟨some 49, .bin .lss (.t 46) (.t 48), some (45, false)⟩, ⟨some 50, .pick (.t 45) (kb true) (.t 49), none⟩])
 (.cond (.t 50)
 (.seq (.reg false [⟨some 51, .call (kf 5) [], none⟩, ⟨some 4, .mv (.t 51), none⟩])
 .ret)
 .skip))
 (.seq (.reg false [⟨some 53, .ld true 6 (.t 2), none⟩, ⟨some 54, .mv (.t 5), none⟩, ⟨some 55, .call (kf 17) [(.t 53), (.t 54), (ki 32)], none⟩, ⟨some 52, .mv (.t 55), none⟩, ⟨some 56, .ex (.t 52) 0, none⟩, ⟨some 57, .ex (.t 52) 1, none⟩, ⟨some 7, .mv (.t 56), none⟩, ⟨some 8, .mv (.t 57), none⟩])
 (.seq (.seq (.reg false [⟨some 58, .mv (.t 8), none⟩, ⟨some 59, .bin .neq (.t 58) (ki 0), none⟩])
 (.cond (.t 59)
 (.seq (.reg false [⟨some 4, .mv (kb false), none⟩])
 .ret)
 .skip))
 (.seq (.reg false [⟨some 61, .ld true 6 (.t 3), none⟩, ⟨some 62, .mv (.t 5), none⟩, ⟨some 63, .call (kf 18) [(.t 61), (.t 62)], none⟩, ⟨some 60, .mv (.t 63), none⟩, ⟨some 64, .ex (.t 60) 0, none⟩, ⟨some 65, .ex (.t 60) 1, none⟩, ⟨some 9, .alloc 51 6 [.slice none 0 0, .slice none 0 0, .int .i64 0, .int .i64 0, .int .i64 0, .slice none 0 0], none⟩, ⟨none, .st 6 (.t 9) (.t 64), none⟩, ⟨some 10, .mv (.t 65), none⟩])
 (.seq (.seq (.reg false [⟨some 66, .mv (.t 7), none⟩, ⟨some 67, .len (.t 66), none⟩, ⟨some 68, .bin .gtr (.t 67) (ki 0), none⟩, ⟨some 69, .mv (.t 68), none⟩, ⟨some 70, .mv (.t 10), some (69, true)⟩, ⟨some 71, .bin .eql (.t 70) (ki 0), some (69, true)⟩, ⟨some 72, .pick (.t 69) (.t 71) (kb false), none⟩])
 (.cond (.t 72)
 (.reg false [⟨some 74, .ld true 6 (.t 9), none⟩, ⟨some 75, .mv (.t 5), none⟩, ⟨some 76, .mv (.t 7), none⟩, ⟨some 77, .call (kf 19) [(.t 74), (.t 75), (.t 76)], none⟩, ⟨some 73, .mv (.t 77), none⟩, ⟨some 78, .ex (.t 73) 0, none⟩, ⟨some 79, .ex (.t 73) 1, none⟩, ⟨some 80, .ex (.t 73) 2, none⟩, ⟨none, .st 6 (.t 9) (.t 78), none⟩, ⟨some 10, .mv (.t 80), none⟩])
 .skip))
 (.seq (.seq (.reg false [⟨some 81, .mv (.t 10), none⟩, ⟨some 82, .bin .eql (.t 81) (ki 6), none⟩])
 (.cond (.t 82)
 (.seq (.reg false [⟨some 83, .call (kf 5) [], none⟩, ⟨some 4, .mv (.t 83), none⟩])
 .ret)
 .skip))
 (.seq (.reg true [⟨some 85, .ld true 6 (.t 9), none⟩, ⟨some 86, .fa 3 (.t 2), none⟩, ⟨some 87, .ld false 1 (.t 86), none⟩, ⟨some 88, .fa 4 (.t 2), none⟩, ⟨some 89, .ld false 1 (.t 88), none⟩, ⟨some 90, .ld true 6 (.t 2), none⟩, ⟨some 91, .call (kf 16) [(.t 90)], none⟩, ⟨some 92, .call (kf 15) [(.t 85), (.t 87), (.t 89), (.t 91)], none⟩, ⟨some 84, .mv (.t 92), none⟩, ⟨some 93, .ex (.t 84) 0, none⟩, ⟨some 94, .ex (.t 84) 1, none⟩, ⟨some 11, .mv (.t 93), none⟩, ⟨some 12, .mv (.t 94), none⟩])
 (.seq (.reg false [⟨some 95, .mv (.t 10), none⟩, ⟨some 96, .bin .eql (.t 95) (ki 0), none⟩, ⟨some 97, .mv (.t 96), none⟩, ⟨some 98, .mv (.t 12), some (97, true)⟩, ⟨some 99, .pick (.t 97) (.t 98) (kb false), none⟩, ⟨some 100, .mv (.t 99), none⟩, ⟨some 101, .mv (.t 11), some (100, true)⟩, ⟨some 102, .ld true 6 (.t 2), some (100, true)⟩, ⟨some 103, .call (kf 20) [(.t 102)], some (100, true)⟩, ⟨some 104, .bin .eql (.t 101) (.t 103), some (100, true)⟩, ⟨some 105, .pick (.t 100) (.t 104) (kb false), none⟩, ⟨some 106, .mv (.t 105), none⟩, ⟨some 107, .ld true 6 (.t 9), some (106, true)⟩, ⟨some 108, .call (kf 21) [(.t 107)], some (106, true)⟩, ⟨some 109, .mv (.t 11), some (106, true)⟩, ⟨some 110, .bin .eql (.t 108) (.t 109), some (106, true)⟩, ⟨some 111, .pick (.t 106) (.t 110) (kb false), none⟩, ⟨some 112, .mv (.t 111), none⟩, ⟨some 113, .call (kf 5) [], some (112, true)⟩, ⟨some 114, .pick (.t 112) (.t 113) (kb false), none⟩, ⟨some 4, .mv (.t 114), none⟩])
 .ret)))))))))))
abbrev n_windroselaw28_PglogMeets : Nat := 4
theorem F_windroselaw28_PglogMeets : Fun Try.prog n_windroselaw28_PglogMeets 115 c_windroselaw28_PglogMeets [.t 4] := ⟨⟨Try.f4, _, Try.func4, by kernel_rfl, rfl, rfl, by kernel_rfl, by kernel_rfl⟩⟩
end Go.Proofs.Ytcmkhlfjcdchmaa.A
end
section
namespace Go.Proofs.Ytcmkhlfjcdchmaa.A
open Go Go.Proofs Go.Proofs.YtcmkhlfjcdchmaaAbs
attribute [go_sem] opRow
structure Lg where
  base : Shf
  trim : Int
  epoch : Int
  tail : List Ent
instance : Inhabited Lg := ⟨⟨⟨[], [], 0⟩, 0, 0, []⟩⟩
abbrev lgCells (x : Lg) : List AV := [.c (immL 2 Lin.c x.base.lines), .c (immL 5 Dn.c x.base.dones), .c (.v (.int .i64 x.base.floor)), .c (.v (.int .i64 x.trim)), .c (.v (.int .i64 x.epoch)), .c (immL 10 Ent.c x.tail)]
abbrev lgA (x : Lg) : Pt := .agg (lgCells x)
@[go_sem] def Lg.c (x : Lg) : Nat → CV
  | 0 => immL 2 Lin.c x.base.lines
  | 1 => immL 5 Dn.c x.base.dones
  | 2 => .v (.int .i64 x.base.floor)
  | 3 => .v (.int .i64 x.trim)
  | 4 => .v (.int .i64 x.epoch)
  | _ => immL 10 Ent.c x.tail
/-- A log that is not too great to be looked at. -/
structure zLg (l : Lg) : Prop where
  base : zShf l.base
  len : l.tail.length ≤ 1000
  ser : ∀ e ∈ l.tail, e.op.ser.size ≤ 2000
abbrev lgB (x : Lg) : Blk := .rows 51 6 0 [lgCells x] true
theorem pin_rc (n lo hi : Int) (M : List Blk) : CallR Try.prog M n_pglog_in [.i n, .i lo, .i hi] (.b (decide (lo ≤ n) && decide (n ≤ hi))) M := by
  refine callP F_pglog_in (Nat.le_of_ble_eq_true rfl) (by simp only [go_sem]) (by simp only [go_sem]) ?_ M
  simp only [c_pglog_in, go_sem]
theorem rpin_rc (n lo : Int) (M : List Blk) : CallR Try.prog M n_windroseref28_in [.i n, .i lo] (.b (decide (lo ≤ n) && decide (n < 2147483648))) M := by
  refine callP F_windroseref28_in (Nat.le_of_ble_eq_true rfl) (by simp only [go_sem]) (by simp only [go_sem]) ?_ M
  simp only [c_windroseref28_in, go_sem]
def entOk (e : Ent) : Bool := decide (1 ≤ e.epoch) && decide (e.epoch ≤ 2147483647) && decide (0 ≤ e.client) && decide (e.client ≤ 2147483647) && decide (1 ≤ e.id) && decide (e.id ≤ 2147483647) && opOk e.op
theorem endI {n : Nat} (v : Int) (e : Nat → SV) (X : List Blk) (r : Nat) (h4 : e r = .i v) : FinK n 0 [.t r] (.i v) [] .ret ⟨e, X⟩ := by
  refine fin0 (.inr rfl) (qs := [.one (.c (.v (.int .i64 v)))]) (cnd := True) ?_ trivial (SubS.refl _) (by simp only [go_sem])
  simp only [go_sem, h4]
set_option maxRecDepth 20000 in
theorem CheckEntry_rc (e : Ent) (ho : e.op.ser.size ≤ 2000) (M : List Blk) : CallR Try.prog M n_pglog_CheckEntry [entA e] (.i (if entOk e then 0 else 1)) M := by
  refine callPG F_pglog_CheckEntry (Nat.le_of_ble_eq_true rfl) (by simp only [go_sem]) ?_ M
  obtain ⟨epoch, client, id, op⟩ := e
  refine run_seqV ?_
  simp only [go_sem]
  refine run_seqV ?_
  simp only [go_sem]
  refine call0 (pin_rc _ _ _) ?_
  simp only [go_sem]
  refine callg0 (fun _ => pin_rc client 0 2147483647) ?_
  simp only [go_sem]
  refine callg0 (fun _ => pin_rc id 1 2147483647) ?_
  simp only [go_sem]
  refine ⟨fun hc => ?_, fun hc => ?_⟩
  · have : entOk ⟨epoch, client, id, op⟩ = false := by
      rw [← Bool.not_eq_true]
      intro h
      simp only [entOk, Bool.and_eq_true, decide_eq_true_eq] at h
      simp only [Bool.or_eq_true, Bool.not_eq_true', Bool.and_eq_false_iff, decide_eq_false_iff_not] at hc
      omega
    rw [this]
    exact endI 1 _ _ 2 (by simp only [go_sem])
  · have : entOk ⟨epoch, client, id, op⟩ = opOk op := by
      simp only [Bool.or_eq_false_iff, Bool.not_eq_false', Bool.and_eq_true, decide_eq_true_eq] at hc
      simp only [entOk, hc, decide_true, Bool.true_and]
    rw [this]
    refine V_sound ?_
    simp only [go_sem]
    refine call0 (CheckOp_rc op ho) ?_
    simp only [go_sem]
    exact endI _ _ _ 2 (by simp only [go_sem])
set_option maxRecDepth 20000 in
theorem rEntry_rc (e : Ent) (ho : e.op.ser.size ≤ 2000) (M : List Blk) : CallR Try.prog M n_windroseref28_Entry [entA e] (.b (entOk e)) M := by
  refine callPG F_windroseref28_Entry (Nat.le_of_ble_eq_true rfl) (by simp only [go_sem]) ?_ M
  obtain ⟨epoch, client, id, op⟩ := e
  refine run_seqV ?_
  simp only [go_sem]
  refine run_seqV ?_
  simp only [go_sem]
  refine call0 (rpin_rc _ _) ?_
  simp only [go_sem]
  refine callg0 (fun _ => rpin_rc client 0) ?_
  simp only [go_sem]
  refine callg0 (fun _ => rpin_rc id 1) ?_
  simp only [go_sem]
  refine callg0 (fun _ => rOp_rc op ho) ?_
  simp only [go_sem]
  refine run_ret ?_
  have : entOk ⟨epoch, client, id, op⟩ = (decide (1 ≤ epoch) && decide (epoch < 2147483648) && (decide (0 ≤ client) && decide (client < 2147483648)) && (decide (1 ≤ id) && decide (id < 2147483648)) && opOk op) := by
    have h8 : ∀ x : Int, decide (x < 2147483648) = decide (x ≤ 2147483647) := fun x => by rw [decide_eq_decide]; omega
    simp only [entOk, h8, Bool.and_assoc]
  rw [this]
  exact endB _ _ _ 2 (by simp only [go_sem])
/-- The epoch ahead of a place of entries. -/
def epAt (l : List Ent) (ep : Int) (i : Nat) : Int := if i = 0 then ep else (l.getD (i - 1) default).epoch
def enAt (l : List Ent) (ep : Int) (i : Nat) : Bool := entOk (l.getD i default) && decide (epAt l ep i ≤ (l.getD i default).epoch)
def entsOk (l : List Ent) (ep : Int) : Bool := decide (l.length ≤ 32) && (List.range l.length).all (enAt l ep)
theorem entsOk_f {l : List Ent} {ep : Int} {k : Nat} (hk : k < l.length) (h : enAt l ep k = false) : entsOk l ep = false := by rw [entsOk, all_f hk h, Bool.and_false]
theorem entsOk_t {l : List Ent} {ep : Int} (h : ∀ i, i < l.length → enAt l ep i = true) : entsOk l ep = decide (l.length ≤ 32) := by rw [entsOk, all_t h, Bool.and_true]
theorem epAt_succ (l : List Ent) (ep : Int) (k : Nat) : epAt l ep (k + 1) = (l.getD k default).epoch := by simp [epAt]
set_option maxRecDepth 20000 in
theorem entries28_rc (l : List Ent) (hl : l.length ≤ 1000) (hs : ∀ e ∈ l, e.op.ser.size ≤ 2000) (ep : Int) (M : List Blk) : CallR Try.prog M n_pglog_entries [entL l, .i ep] (.b (entsOk l ep)) M := by
  refine callPG F_pglog_entries (Nat.le_of_ble_eq_true rfl) (by simp only [go_sem]) ?_ M
  refine run_seqV ?_
  simp only [go_sem]
  refine run_seqV ?_
  simp only [go_sem]
  refine R_loop (ι := Nat) (J := fun k => k ≤ l.length ∧ ∀ i, i < k → enAt l ep i = true)
    (env := fun k => [(0, .p (entL l)), (1, .i (epAt l ep k)), (7, .p (entL l)), (8, .i l.length), (9, .i k)])
    (mem := fun _ => []) (μ := fun k => l.length - k) 0 ⟨Nat.zero_le _, fun j hj => absurd hj (Nat.not_lt_zero _)⟩ ⟨[], rfl, Nat.zero_le _, ?_, ?_⟩ ?_
  · simp only [go_sem, epAt]
  · intro x hx; cases hx
  rintro k ⟨hk, hok⟩
  refine run_seqV ?_
  simp only [go_sem]
  refine run_seqV ?_
  simp only [go_sem]
  refine ⟨fun h1 => ?_, fun h1 => ?_⟩
  · have e3 : IntKind.i64.wrap ((k : Int) + 1) = ((k + 1 : Nat) : Int) := w64s (by omega)
    have hsz : (l.getD k default).op.ser.size ≤ 2000 := by rw [gd_get h1]; exact hs _ (List.getElem_mem h1)
    refine run_seq ?_
    refine run_block ?_
    refine run_seqV ?_
    simp only [go_sem]
    refine ⟨⟨by omega, h1⟩, run_seqV ?_⟩
    simp only [go_sem]
    refine call0 (CheckEntry_rc _ hsz) ?_
    simp only [go_sem]
    rw [ifne]
    have key : (!entOk (l.getD k default) || decide ((l.getD k default).epoch < epAt l ep k)) = !enAt l ep k := by
      rw [enAt, Bool.not_and]
      congr 1
      rw [Bool.eq_iff_iff]; simp
    refine ⟨fun hc => ?_, fun hc => ?_⟩
    · rw [key] at hc
      rw [entsOk_f h1 (by simpa using hc)]
      exact endB false _ _ 4 (by simp only [go_sem])
    · rw [key] at hc
      refine V_sound ?_
      simp only [go_sem]
      refine V_sound ?_
      simp only [go_sem, e3]
      refine ⟨k + 1, ⟨h1, fun i hi => ?_⟩, by omega, [_], rfl, Nat.zero_le _, ?_, ?_⟩
      · by_cases e : i = k
        · subst e; simpa using hc
        · exact hok i (by omega)
      · simp only [go_sem, epAt_succ]
      · intro x hx; cases hx
  · have hkl : k = l.length := by omega
    subst hkl
    rw [entsOk_t hok]
    refine V_sound ?_
    simp only [go_sem]
    have : decide (l.length ≤ 32) = decide ((l.length : Int) ≤ 32) := by rw [decide_eq_decide]; omega
    rw [this]
    exact endB _ _ _ 4 (by simp only [go_sem])
end Go.Proofs.Ytcmkhlfjcdchmaa.A
end
section
namespace Go.Proofs.Ytcmkhlfjcdchmaa.A
open Go Go.Proofs Go.Proofs.YtcmkhlfjcdchmaaAbs
set_option maxRecDepth 20000 in
theorem rEntries28_rc (l : List Ent) (hl : l.length ≤ 1000) (hs : ∀ e ∈ l, e.op.ser.size ≤ 2000) (ep : Int) (M : List Blk) : CallR Try.prog M n_windroseref28_Entries [entL l, .i ep] (.b (entsOk l ep)) M := by
  refine callPG F_windroseref28_Entries (Nat.le_of_ble_eq_true rfl) (by simp only [go_sem]) ?_ M
  refine run_seqV ?_
  simp only [go_sem]
  refine run_seqV ?_
  simp only [go_sem]
  refine R_loop (ι := Nat) (J := fun k => k ≤ l.length ∧ ∀ i, i < k → enAt l ep i = true)
    (env := fun k => [(0, .p (entL l)), (1, .i (epAt l ep k)), (5, .i k)])
    (mem := fun _ => []) (μ := fun k => l.length - k) 0 ⟨Nat.zero_le _, fun j hj => absurd hj (Nat.not_lt_zero _)⟩ ⟨[], rfl, Nat.zero_le _, ?_, ?_⟩ ?_
  · simp only [go_sem, epAt]
  · intro x hx; cases hx
  rintro k ⟨hk, hok⟩
  refine run_seqV ?_
  simp only [go_sem]
  refine ⟨fun h1 => ?_, fun h1 => ?_⟩
  · have e3 : IntKind.i64.wrap ((k : Int) + 1) = ((k + 1 : Nat) : Int) := w64s (by omega)
    have hsz : (l.getD k default).op.ser.size ≤ 2000 := by rw [gd_get h1]; exact hs _ (List.getElem_mem h1)
    refine run_seq ?_
    refine run_block ?_
    refine run_seqV ?_
    simp only [go_sem]
    refine ⟨⟨by omega, h1⟩, call0 (rEntry_rc _ hsz) ?_⟩
    simp only [go_sem]
    have key : (!entOk (l.getD k default) || decide ((l.getD k default).epoch < epAt l ep k)) = !enAt l ep k := by
      rw [enAt, Bool.not_and]
      congr 1
      rw [Bool.eq_iff_iff]; simp
    rw [key]
    refine ⟨fun _ => by omega, fun hc => ?_, fun hc => ?_⟩
    · rw [entsOk_f h1 (by simpa using hc)]
      exact endB false _ _ 4 (by simp only [go_sem])
    · refine V_sound ?_
      simp only [go_sem]
      refine ⟨⟨by omega, h1⟩, V_sound ?_⟩
      simp only [go_sem, e3]
      refine ⟨k + 1, ⟨h1, fun i hi => ?_⟩, by omega, [], rfl, Nat.zero_le _, ?_, ?_⟩
      · by_cases e : i = k
        · subst e; simpa using hc
        · exact hok i (by omega)
      · simp only [go_sem, epAt_succ]
      · intro x hx; cases hx
  · have hkl : k = l.length := by omega
    subst hkl
    rw [entsOk_t hok]
    refine V_sound ?_
    simp only [go_sem]
    have : decide (l.length ≤ 32) = decide ((l.length : Int) ≤ 32) := by rw [decide_eq_decide]; omega
    rw [this]
    exact endB _ _ _ 4 (by simp only [go_sem])
def lgOk (l : Lg) : Bool := shOk l.base && decide (0 ≤ l.trim) && decide (l.trim ≤ 2147483647) && decide (0 ≤ l.epoch) && decide (l.epoch ≤ 2147483647) && (decide (l.trim = 0) == decide (l.epoch = 0)) && entsOk l.tail l.epoch && decide (l.trim ≤ 2147483647 - l.tail.length)
set_option maxRecDepth 20000 in
theorem pCheck_rc (l : Lg) (hz : zLg l) (M : List Blk) : CallR Try.prog M n_pglog_Check [lgA l] (.i (if lgOk l then 0 else 1)) M := by
  refine callPG F_pglog_Check (Nat.le_of_ble_eq_true rfl) (by simp only [go_sem]) ?_ M
  obtain ⟨hb, hl, hs⟩ := hz
  obtain ⟨base, trim, epoch, tail⟩ := l
  simp only at hb hl hs ⊢
  refine run_seqV ?_
  simp only [go_sem]
  refine run_seqV ?_
  simp only [go_sem]
  refine call0 (sCheck_rc base hb) ?_
  simp only [go_sem]
  refine callg0 (fun _ => pin_rc trim 0 2147483647) ?_
  simp only [go_sem]
  refine callg0 (fun _ => pin_rc epoch 0 2147483647) ?_
  simp only [go_sem]
  rw [ifne]
  refine ⟨fun hc => ?_, fun hc => ?_⟩
  · have : lgOk ⟨base, trim, epoch, tail⟩ = false := by
      rw [← Bool.not_eq_true]
      intro h
      simp only [lgOk] at h
      grind
    rw [this]
    exact endI 1 _ _ 2 (by simp only [go_sem])
  · refine run_seqV ?_
    simp only [go_sem]
    refine call0 (entries28_rc tail hl hs epoch) ?_
    simp only [go_sem]
    rw [w64 (n := 2147483647 - (tail.length : Int)) (by omega) (by omega)]
    have : lgOk ⟨base, trim, epoch, tail⟩ = (entsOk tail epoch && decide (trim ≤ 2147483647 - tail.length)) := by
      simp only [lgOk]
      grind
    rw [this]
    refine ⟨fun hd => ?_, fun hd => ?_⟩
    · have : (entsOk tail epoch && decide (trim ≤ 2147483647 - tail.length)) = false := by
        rw [← Bool.not_eq_true]
        intro h
        simp only [Bool.and_eq_true, decide_eq_true_eq] at h
        rw [h.1] at hd
        simp at hd
        omega
      rw [this]
      exact endI 1 _ _ 2 (by simp only [go_sem])
    · have : (entsOk tail epoch && decide (trim ≤ 2147483647 - tail.length)) = true := by
        simp at hd
        simp [hd]
      rw [this]
      refine V_sound ?_
      simp only [go_sem]
      exact endI 0 _ _ 2 (by simp only [go_sem])
end Go.Proofs.Ytcmkhlfjcdchmaa.A
end
section
namespace Go.Proofs.Ytcmkhlfjcdchmaa.A
open Go Go.Proofs Go.Proofs.YtcmkhlfjcdchmaaAbs
set_option maxRecDepth 20000 in
theorem rMay28_rc (l : Lg) (hz : zLg l) (M : List Blk) : CallR Try.prog M n_windroseref28_May [lgA l] (.b (lgOk l)) M := by
  refine callPG F_windroseref28_May (Nat.le_of_ble_eq_true rfl) (by simp only [go_sem]) ?_ M
  obtain ⟨hb, hl, hs⟩ := hz
  obtain ⟨base, trim, epoch, tail⟩ := l
  simp only at hb hl hs ⊢
  refine run_seqV ?_
  simp only [go_sem]
  refine run_seqV ?_
  simp only [go_sem]
  refine call0 (rsMay_rc base hb) ?_
  simp only [go_sem]
  refine callg0 (fun _ => rpin_rc trim 0) ?_
  simp only [go_sem]
  refine callg0 (fun _ => rpin_rc epoch 0) ?_
  simp only [go_sem]
  refine ⟨fun hc => ?_, fun hc => ?_⟩
  · have : lgOk ⟨base, trim, epoch, tail⟩ = false := by
      rw [← Bool.not_eq_true]
      intro h
      simp only [lgOk] at h
      grind
    rw [this]
    exact endB false _ _ 2 (by simp only [go_sem])
  · refine run_seqV ?_
    simp only [go_sem]
    refine call0 (rEntries28_rc tail hl hs epoch) ?_
    simp only [go_sem]
    rw [w64 (n := 2147483647 - (tail.length : Int)) (by omega) (by omega)]
    have : lgOk ⟨base, trim, epoch, tail⟩ = (entsOk tail epoch && decide (trim ≤ 2147483647 - tail.length)) := by
      simp only [lgOk]
      grind
    rw [this]
    exact run_ret (endB _ _ _ 2 (by simp only [go_sem]))
def endL (l : Lg) : Int := if lgOk l = true then l.trim + l.tail.length else 0
structure lgP (l : Lg) : Prop where
  base : shOk l.base = true
  t0 : 0 ≤ l.trim
  e0 : 0 ≤ l.epoch
  e1 : l.epoch ≤ 2147483647
  te : l.trim = 0 ↔ l.epoch = 0
  ents : entsOk l.tail l.epoch = true
  fit : l.trim + l.tail.length ≤ 2147483647
theorem lgOk_iff (l : Lg) : lgOk l = true ↔ lgP l := by
  simp only [lgOk, Bool.and_eq_true, decide_eq_true_eq, beq_iff_eq, decide_eq_decide]
  constructor
  · rintro ⟨⟨⟨⟨⟨⟨⟨h1, h2⟩, h3⟩, h4⟩, h5⟩, h6⟩, h7⟩, h8⟩
    exact ⟨h1, h2, h4, h5, h6, h7, by omega⟩
  · rintro ⟨h1, h2, h3, h4, h5, h6, h7⟩
    exact ⟨⟨⟨⟨⟨⟨⟨h1, h2⟩, by omega⟩, h3⟩, h4⟩, h5⟩, h6⟩, by omega⟩
theorem ents_len {l : List Ent} {ep : Int} (h : entsOk l ep = true) : l.length ≤ 32 := by
  unfold entsOk at h
  exact of_decide_eq_true (Bool.and_eq_true_iff.1 h).1
set_option maxRecDepth 20000 in
theorem pEnd_rc (l : Lg) (hz : zLg l) (M : List Blk) : CallR Try.prog M n_pglog_End [lgA l] (.i (endL l)) M := by
  refine callPG F_pglog_End (Nat.le_of_ble_eq_true rfl) (by simp only [go_sem]) ?_ M
  refine run_seqV ?_
  simp only [go_sem]
  refine run_seqV ?_
  simp only [go_sem]
  refine call0 (pCheck_rc l hz) ?_
  simp only [go_sem]
  rw [ifne, endL]
  cases hok : lgOk l with
  | false =>
    simp only [go_sem]
    exact endI 0 _ _ 2 (by simp only [go_sem])
  | true =>
    have h := (lgOk_iff l).1 hok
    have h1 := h.t0
    have h2 := h.fit
    simp only [go_sem]
    refine V_sound ?_
    simp only [go_sem]
    rw [w64 (by omega) (by omega)]
    exact endI _ _ _ 2 (by simp only [go_sem])
theorem rEnd28_rc (l : Lg) (h0 : 0 ≤ l.trim) (h1 : l.trim + l.tail.length ≤ 2147483647) (M : List Blk) : CallR Try.prog M n_windroseref28_End [lgA l] (.i (l.trim + l.tail.length)) M := by
  refine callPG F_windroseref28_End (Nat.le_of_ble_eq_true rfl) (by simp only [go_sem]) ?_ M
  refine V_sound ?_
  simp only [c_windroseref28_End, go_sem]
  rw [w64 (by omega) (by omega)]
  exact endI _ _ _ 2 (by simp only [go_sem])
/-- The epoch ahead of a place that is there. -/
def befL (l : Lg) (at_ : Int) : Int := epAt l.tail l.epoch (at_ - l.trim).toNat
set_option maxRecDepth 20000 in
theorem pbefore_rc (l : Lg) (at_ : Int) (h0 : 0 ≤ l.trim) (h1 : l.trim ≤ at_) (h2 : at_ ≤ l.trim + l.tail.length) (h3 : l.trim + l.tail.length ≤ 2147483647) (M : List Blk) : CallR Try.prog M n_pglog_before [lgA l, .i at_] (.i (befL l at_)) M := by
  refine callPG F_pglog_before (Nat.le_of_ble_eq_true rfl) (by simp only [go_sem]) ?_ M
  refine run_seqV ?_
  simp only [go_sem]
  refine run_seqV ?_
  simp only [go_sem]
  refine ⟨fun hc => ?_, fun hc => ?_⟩
  · have : befL l at_ = l.epoch := by rw [befL, epAt, if_pos (by omega)]
    rw [this]
    exact endI _ _ _ 4 (by simp only [go_sem])
  · refine V_sound ?_
    simp only [go_sem]
    rw [w64 (n := at_ - l.trim) (by omega) (by omega), w64 (n := at_ - l.trim - 1) (by omega) (by omega)]
    have : befL l at_ = (l.tail.getD (at_ - l.trim - 1).toNat default).epoch := by
      rw [befL, epAt, if_neg (by omega)]
      congr 2
      omega
    rw [this]
    refine ⟨by omega, ?_⟩
    exact endI _ _ _ 4 (by simp only [go_sem])
def lastL (l : Lg) : Int := if lgOk l = true then epAt l.tail l.epoch l.tail.length else 0
set_option maxRecDepth 20000 in
theorem pLast_rc (l : Lg) (hz : zLg l) (M : List Blk) : CallR Try.prog M n_pglog_Last [lgA l] (.i (lastL l)) M := by
  refine callPG F_pglog_Last (Nat.le_of_ble_eq_true rfl) (by simp only [go_sem]) ?_ M
  refine run_seqV ?_
  simp only [go_sem]
  refine run_seqV ?_
  simp only [go_sem]
  refine call0 (pCheck_rc l hz) ?_
  simp only [go_sem]
  rw [ifne, lastL]
  have hE := fun M => pEnd_rc l hz M
  unfold endL at hE
  cases hok : lgOk l with
  | false =>
    simp only [go_sem]
    exact endI 0 _ _ 2 (by simp only [go_sem])
  | true =>
    have h := (lgOk_iff l).1 hok
    rw [hok, if_pos rfl] at hE
    simp only [go_sem]
    refine run_seqV ?_
    simp only [go_sem]
    have hb := fun M => pbefore_rc l (l.trim + l.tail.length) h.t0 (by omega) (Int.le_refl _) h.fit M
    rw [befL, show (l.trim + (l.tail.length : Int) - l.trim).toNat = l.tail.length by omega] at hb
    refine call0 hE ?_
    simp only [go_sem]
    refine call0 hb ?_
    simp only [go_sem]
    exact run_ret (endI _ _ _ 2 (by simp only [go_sem]))
@[go_sem] def intC (x : Int) (_ : Nat) : CV := .v (.int .i64 x)
abbrev intsL (l : List Int) : Pt := immP 1 intC l
abbrev intsR (t : Nat) (v : Nat) (l : List Int) (f : Bool) : Blk := .rows t 1 v (rowsL 1 intC l) f
theorem int_row (l : List Int) (x : Int) : rowsL 1 intC l ++ [[AV.c (CV.v (Value.int IntKind.i64 x))]] = rowsL 1 intC (l ++ [x]) := rowsL_app1 l x
def epsL (l : List Ent) : List Int := l.map fun e => e.epoch
theorem epsL_take (l : List Ent) {k : Nat} (hk : k < l.length) : epsL (l.take (k + 1)) = epsL (l.take k) ++ [(l.getD k default).epoch] := by
  unfold epsL
  rw [take_succ_getD default hk, List.map_append]
  rfl
end Go.Proofs.Ytcmkhlfjcdchmaa.A
end
section
namespace Go.Proofs.Ytcmkhlfjcdchmaa.A
open Go Go.Proofs Go.Proofs.YtcmkhlfjcdchmaaAbs
def epochsL (l : Lg) : List Int := if lgOk l = true then epsL l.tail else []
theorem epsL_len (l : List Ent) : (epsL l).length = l.length := List.length_map ..
theorem end_ints {n : Nat} (ws : List Int) (e : Nat → SV) (X : List Blk) (v : Nat) (f : Bool) (r b : Nat) (h4 : e r = .p (.one (.arr 1 b v 0 ws.length))) (hX : X[b]? = some (intsR 3 v ws f)) : FinK n 0 [.t r] (.p (intsL ws)) [] .ret ⟨e, X⟩ := by
  refine finQ (.inr rfl) (gh_freeze (b := b) (l := rowsL 1 intC ws) hX (rowsL_closed ws)) (qs := [.one (.c (.imm 1 ws.length fun i j => toC (((rowsL 1 intC ws).getD (0 + i) []).getD j default)))]) (cnd := True) ?_ trivial (subS_p (subP_one (frz_sub ws))) (by simp only [go_sem])
  simp only [go_sem, h4, Nat.zero_add]
set_option maxRecDepth 20000 in
theorem pEpochs_rc (l : Lg) (hz : zLg l) (M : List Blk) : CallR Try.prog M n_pglog_Epochs [lgA l] (.p (intsL (epochsL l))) M := by
  refine callPG F_pglog_Epochs (Nat.le_of_ble_eq_true rfl) (by simp only [go_sem]) ?_ M
  refine run_seqV ?_
  simp only [go_sem]
  refine run_seqV ?_
  simp only [go_sem]
  refine run_seqV ?_
  simp only [go_sem]
  refine call0 (pCheck_rc l hz) ?_
  simp only [go_sem]
  rw [ifne, epochsL]
  obtain ⟨hb, hl, hs⟩ := hz
  cases hok : lgOk l with
  | false =>
    simp only [go_sem]
    exact fin0 (.inr rfl) (qs := [.one (.c (.v (.slice none 0 0)))]) (cnd := True) (by simp only [go_sem]) trivial (subS_p (subP_one (nil_sub (sz := 1) (c := intC)))) (by simp only [go_sem])
  | true =>
    simp only [go_sem]
    refine run_seqV ?_
    simp only [go_sem]
    refine run_gh (gh_born 3 3 1 (by simp only [go_sem])) ?_
    simp only [List.cons_append, List.nil_append, List.length_cons, List.length_nil, Nat.zero_add]
    refine R_loop (ι := Nat × Nat × Bool) (J := fun p => p.1 ≤ l.tail.length)
      (env := fun p => [(3, .p (.one (.arr 1 1 p.2.1 0 (epsL (l.tail.take p.1)).length))), (10, .p (entL l.tail)), (11, .i l.tail.length), (12, .i p.1)])
      (mem := fun p => [lgB l, intsR 3 p.2.1 (epsL (l.tail.take p.1)) p.2.2])
      (μ := fun p => l.tail.length - p.1) (0, 0, true) (Nat.zero_le _) ⟨[], rfl, Nat.zero_le _, ?_, ?_⟩ ?_
    · simp only [go_sem, List.take_zero, epsL, List.map_nil, List.length_nil]
    · simp only [go_sem, ltB]
      exact fun r hr => (rowsL_row r hr).2 _
    rintro ⟨k, v, f⟩ hk
    simp only at hk
    refine run_seqV ?_
    simp only [go_sem]
    refine run_seqV ?_
    simp only [go_sem]
    refine ⟨fun h1 => ?_, fun h1 => ?_⟩
    · have e3 : IntKind.i64.wrap ((k : Int) + 1) = ((k + 1 : Nat) : Int) := w64s (by omega)
      have hst := epsL_take l.tail h1
      have hle : (epsL (l.tail.take k)).length ≤ 1000 := by rw [epsL_len, List.length_take]; omega
      generalize epsL (l.tail.take k) = ws at hst hle
      refine V_sound ?_
      simp only [go_sem, int_row, rowsL_len, e3]
      refine ⟨⟨by omega, h1⟩, by omega, (k + 1, v + 1, false), h1, by simp only []; omega, [_, _], by simp only [hst]; rfl, Nat.zero_le _, ?_, ?_⟩
      · simp only [go_sem, hst, List.length_append, List.length_cons, List.length_nil, Nat.zero_add]
      · simp only [go_sem, ltB]
        exact fun r hr => (rowsL_row r hr).2 _
    · have hkl : k = l.tail.length := by omega
      subst hkl
      rw [List.take_length]
      refine V_sound ?_
      simp only [go_sem]
      exact end_ints (epsL l.tail) _ _ v f 2 1 (by simp only [go_sem]) rfl
def placeL (l : Lg) (p : Int) : Int := if p < l.trim then 9 else if l.trim + l.tail.length < p then 5 else 0
set_option maxRecDepth 20000 in
theorem pplace_rc (l : Lg) (hz : zLg l) (hok : lgOk l = true) (p : Int) (M : List Blk) : CallR Try.prog M n_pglog_place [lgA l, .i p] (.i (placeL l p)) M := by
  refine callPG F_pglog_place (Nat.le_of_ble_eq_true rfl) (by simp only [go_sem]) ?_ M
  have hE := fun M => pEnd_rc l hz M
  unfold endL at hE
  rw [hok, if_pos rfl] at hE
  unfold placeL
  refine run_seqV ?_
  simp only [go_sem]
  refine V_sound ?_
  simp only [go_sem]
  refine ⟨fun hc => ?_, fun hc => ?_⟩
  · rw [if_pos hc]
    exact endI _ _ _ 4 (by simp only [go_sem])
  · rw [if_neg hc]
    refine call0 hE ?_
    simp only [go_sem]
    refine ⟨fun hd => ?_, fun hd => ?_⟩
    · rw [if_pos hd]
      exact endI _ _ _ 4 (by simp only [go_sem])
    · rw [if_neg hd]
      exact endI _ _ _ 4 (by simp only [go_sem])
end Go.Proofs.Ytcmkhlfjcdchmaa.A
end
section
namespace Go.Proofs.Ytcmkhlfjcdchmaa.A
open Go Go.Proofs Go.Proofs.YtcmkhlfjcdchmaaAbs
set_option maxRecDepth 20000 in
theorem copied_rc (s : Shf) (hz : zShf s) (M : List Blk) : CallR Try.prog M n_pglog_copied [shfA s] (.p (shfA s)) M := by
  refine callPG F_pglog_copied (Nat.le_of_ble_eq_true rfl) (by simp only [go_sem]) ?_ M
  obtain ⟨lines, dones, floor⟩ := s
  obtain ⟨hll, hdl, hser, hsmp⟩ := hz
  simp only at hll hdl hser hsmp ⊢
  refine run_seqV ?_
  simp only [go_sem]
  refine run_regX 1 ?_
  simp only [go_sem, List.replicate_succ, List.replicate_zero]
  refine callxf 2 [2] [(2, lnR 1 lines false)] (by simp) (fun N hN => cloneAt F_slices_Clone_api_Line_api_Line lines (by omega) N (hN 2 (by simp))) ?_
  simp only [apL, go_sem]
  refine callx0 (clone_rc (c := Dn.c) F_slices_Clone_api_Done_api_Done dones (by omega)) ?_
  simp only [apL, go_sem]
  refine ⟨rfl, ?_⟩
  refine run_seqV ?_
  simp only [go_sem]
  refine R_loop (ι := Nat) (J := fun k => k ≤ lines.length)
    (env := fun k => [(1, .p (.one (.ptr 0 0 0 0))), (2, .p (.one (.ptr 1 0 0 0))), (14, .p (.one (.arr 2 2 1 0 lines.length))), (15, .i lines.length), (16, .i k)])
    (mem := fun _ => [.rows 48 3 0 [[.arr 2 2 1 0 lines.length, .c (immL 5 Dn.c dones), .c (.v (.int .i64 floor))]] true, zSh, lnR 1 lines false])
    (μ := fun k => lines.length - k) 0 (Nat.zero_le _) ⟨[], rfl, Nat.zero_le _, ?_, ?_⟩ ?_
  · simp only [go_sem]
  · simp only [go_sem, ltB]
    exact fun r hr => (rowsL_row r hr).2 _
  rintro k hk
  refine run_seqV ?_
  simp only [go_sem]
  refine run_seqV ?_
  simp only [go_sem]
  refine ⟨fun h1 => ?_, fun h1 => ?_⟩
  · have hrow := rowsL_getD (sz := 2) (c := Lin.c) h1
    have hset := rowsL_set (sz := 2) (c := Lin.c) lines k (lines.getD k default)
    have hsame : lines.set k (lines.getD k default) = lines := set_self (getD_some h1)
    rw [hsame] at hset
    have hs1 := hsmp k h1
    refine run_seq ?_
    refine run_block ?_
    refine run_seqV ?_
    simp only [go_sem, hrow]
    simp only [go_sem] at hset
    refine ⟨by omega, h1, ?_⟩
    refine V_sound ?_
    simp only [go_sem]
    refine call0 (clone_rc (c := Smp.c) F_slices_Clone_api_Sample_api_Sample (lines.getD k default).smps (by omega)) ?_
    simp only [go_sem, hrow, hset]
    refine ⟨by omega, h1, h1, V_sound ?_⟩
    simp only [go_sem, w64s (show k < 9223372036854775807 by omega)]
    refine ⟨k + 1, h1, by omega, [_], rfl, Nat.zero_le _, ?_, ?_⟩
    · simp only [go_sem]
    · simp only [go_sem, ltB]
      exact fun r hr => (rowsL_row r hr).2 _
  · refine V_sound ?_
    simp only [go_sem]
    refine finQ (.inr rfl) (gh_freeze (b := 2) (l := rowsL 2 Lin.c lines) rfl (rowsL_closed lines)) (qs := [.agg [.c (.imm 2 lines.length fun i j => toC (((rowsL 2 Lin.c lines).getD (0 + i) []).getD j default)), .c (immL 5 Dn.c dones), .c (.v (.int .i64 floor))]]) (cnd := True) ?_ trivial (subS_p (subP_aggL ⟨frz_sub _, SubA.refl _, SubA.refl _, trivial⟩)) (by simp only [go_sem])
    simp only [go_sem, Nat.zero_add]
/-- A log of its own memory, told as nobody's. -/
abbrev enR (v : Nat) (l : List Ent) (f : Bool) : Blk := .rows 27 10 v (rowsL 10 Ent.c l) f
set_option maxRecDepth 20000 in
theorem pown_rc (l : Lg) (hz : zLg l) (M : List Blk) : CallR Try.prog M n_pglog_own [lgA l] (.p (lgA l)) M := by
  refine callPG F_pglog_own (Nat.le_of_ble_eq_true rfl) (by simp only [go_sem]) ?_ M
  obtain ⟨hb, hl, hs⟩ := hz
  refine run_seqV ?_
  simp only [go_sem]
  refine run_regX 0 ?_
  simp only [go_sem, List.replicate_succ, List.replicate_zero, List.append_nil]
  refine callx0 (copied_rc l.base hb) ?_
  simp only [go_sem]
  refine callx0 (clone_rc (c := Ent.c) F_slices_Clone_api_Entry_api_Entry l.tail (by omega)) ?_
  simp only [apL, go_sem]
  refine ⟨rfl, ?_⟩
  refine V_sound ?_
  simp only [go_sem]
  exact fin0 (.inr rfl) (qs := [lgA l]) (cnd := True) (by simp only [go_sem]) trivial (SubS.refl _) (by simp only [go_sem])
/-- A log told in memory of its own: its tail in the block b. -/
abbrev lgO (l : Lg) (b v n : Nat) : List AV := [.c (immL 2 Lin.c l.base.lines), .c (immL 5 Dn.c l.base.dones), .c (.v (.int .i64 l.base.floor)), .c (.v (.int .i64 l.trim)), .c (.v (.int .i64 l.epoch)), .arr 10 b v 0 n]
set_option maxRecDepth 20000 in
theorem pownB_rc (l : Lg) (hz : zLg l) {M : List Blk} (hMB : ∀ x ∈ M, ltB M.length x) : CallR Try.prog M n_pglog_own [lgA l] (.p (.agg (lgO l (M.length + 2) 1 l.tail.length))) (M ++ [.dead, .rows 51 6 0 [lgO l (M.length + 2) 1 l.tail.length] true, enR 1 l.tail false]) := by
  refine callR_intro F_pglog_own (by simp) ?_
  obtain ⟨hb, hl, hs⟩ := hz
  refine run_seqV ?_
  simp only [go_sem, mget, mget0, mset, mset0, List.append_assoc, List.length_append, List.length_cons, List.length_nil, Nat.zero_add]
  refine run_regX 1 ?_
  simp only [go_sem, mget, mget0, mset, mset0, List.append_assoc, List.length_append, List.length_cons, List.length_nil, Nat.zero_add, List.replicate_succ, List.replicate_zero]
  refine callx0 (copied_rc l.base hb) ?_
  simp only [go_sem, mget, mget0, mset, mset0, Nat.add_assoc, Nat.reduceAdd]
  refine callxn (by simp only [go_sem, mget]) (fun N hN => cloneAt F_slices_Clone_api_Entry_api_Entry l.tail (by omega) N hN) ?_
  simp only [go_sem, mget, mget0, mset, mset0, Nat.add_assoc, Nat.reduceAdd]
  refine ⟨pairs_un M.length ?_ ?_, ?_⟩
  · simp only [unshift, List.map_cons, List.map_nil, Nat.add_sub_cancel_left, Nat.sub_self]
    rfl
  · simp
  refine V_sound ?_
  simp only [go_sem, mget, mget0, mset, mset0]
  refine fin_m (.inr rfl) (gh_kill M.length) [] (qs := [.agg (lgO l (M.length + 2) 1 l.tail.length)]) (cnd := True) ?_ trivial ?_ (SubS.refl _) ?_ ?_ ?_
  · simp only [go_sem, mget, mget0, mset, mset0]
  · simp only [mset, mset0, go_sem]
  · rw [List.length_append]; omega
  · simp only [go_sem, List.length_append, List.length_cons, List.length_nil]
  · refine ltM_app hMB ?_
    intro x hx
    simp only [List.mem_cons, List.not_mem_nil, or_false] at hx
    rcases hx with rfl | rfl | rfl
    · trivial
    · simp only [go_sem, ltB, List.length_cons, List.length_nil]
    · exact rowsL_ltB _ _ _ _ _
end Go.Proofs.Ytcmkhlfjcdchmaa.A
end
section
namespace Go.Proofs.Ytcmkhlfjcdchmaa.A
open Go Go.Proofs Go.Proofs.YtcmkhlfjcdchmaaAbs
theorem snap_lg {M : List Blk} {b v : Nat} {f : Bool} {l : Lg} (hb : M[b]? = some (enR v l.tail f)) : SnapP M (.agg (lgO l b v l.tail.length)) (lgA l) := by
  refine ⟨rfl, fun k a a' h h' => ?_⟩
  match k with
  | 0 => injection h with h; injection h' with h'; subst h; subst h'; exact Snap.same _ trivial
  | 1 => injection h with h; injection h' with h'; subst h; subst h'; exact Snap.same _ trivial
  | 2 => injection h with h; injection h' with h'; subst h; subst h'; exact Snap.same _ trivial
  | 3 => injection h with h; injection h' with h'; subst h; subst h'; exact Snap.same _ trivial
  | 4 => injection h with h; injection h' with h'; subst h; subst h'; exact Snap.same _ trivial
  | 5 => injection h with h; injection h' with h'; subst h; subst h'; exact snapL l.tail hb
  | k + 6 => simp at h
def zLog : Lg := ⟨⟨[], [], 0⟩, 0, 0, []⟩
def addS (l : Lg) (e : Ent) : Lg × Int :=
  if lgOk l = false then (zLog, 1)
  else if entOk e = false ∨ e.epoch < lastL l then (l, 1)
  else if l.tail.length = 32 ∨ l.trim + l.tail.length = 2147483647 then (l, 6)
  else (⟨l.base, l.trim, l.epoch, l.tail ++ [e]⟩, 0)
theorem end_zlog {n : Nat} (c : Int) (e : Nat → SV) (X : List Blk) (b : Nat) (t : Nat) (h4 : e 4 = .p (.one (.ptr b 0 0 0))) (h5 : e 5 = .i c) (hX : X[b]? = some (.rows t 6 0 [[.c (.v (.slice none 0 0)), .c (.v (.slice none 0 0)), .c (.v (.int .i64 0)), .c (.v (.int .i64 0)), .c (.v (.int .i64 0)), .c (.v (.slice none 0 0))]] true)) : FinK n 0 [.l true 6 4, .t 5] (.tup [lgA zLog, .i c]) [] .ret ⟨e, X⟩ := by
  refine fin0 (.inr rfl) (qs := [.agg [.c (.v (.slice none 0 0)), .c (.v (.slice none 0 0)), .c (.v (.int .i64 0)), .c (.v (.int .i64 0)), .c (.v (.int .i64 0)), .c (.v (.slice none 0 0))], .i c]) (cnd := True) ?_ trivial (subS_tupL ⟨subP_aggL ⟨nil_sub (α := Lin), nil_sub (α := Dn), SubA.refl _, SubA.refl _, SubA.refl _, nil_sub (α := Ent), trivial⟩, SubP.refl _, trivial⟩) (by simp only [go_sem])
  simp only [go_sem, h4, h5, hX]
theorem end_lgO {n : Nat} (l : Lg) (c : Int) (e : Nat → SV) (X : List Blk) (b t d v : Nat) (f : Bool) (h4 : e 4 = .p (.one (.ptr b 0 0 0))) (h5 : e 5 = .i c) (hbd : d ≠ b) (hX : X[b]? = some (.rows t 6 0 [lgO l d v l.tail.length] true)) (hd : X[d]? = some (enR v l.tail f)) : FinK n 0 [.l true 6 4, .t 5] (.tup [lgA l, .i c]) [] .ret ⟨e, X⟩ := by
  refine finQ (.inr rfl) (gh_freeze (b := d) (l := rowsL 10 Ent.c l.tail) hd (rowsL_closed l.tail)) (qs := [.agg [.c (immL 2 Lin.c l.base.lines), .c (immL 5 Dn.c l.base.dones), .c (.v (.int .i64 l.base.floor)), .c (.v (.int .i64 l.trim)), .c (.v (.int .i64 l.epoch)), .c (.imm 10 l.tail.length fun i j => toC (((rowsL 10 Ent.c l.tail).getD (0 + i) []).getD j default))], .i c]) (cnd := True) ?_ trivial (subS_tupL ⟨subP_aggL ⟨SubA.refl _, SubA.refl _, SubA.refl _, SubA.refl _, SubA.refl _, frz_sub _, trivial⟩, SubP.refl _, trivial⟩) (by simp only [go_sem])
  have h6 : ((X.map (frzB d v (rowsL 10 Ent.c l.tail))).set d .dead)[b]? = some (frzB d v (rowsL 10 Ent.c l.tail) (.rows t 6 0 [lgO l d v l.tail.length] true)) := by
    rw [List.getElem?_set, if_neg hbd, List.getElem?_map, hX]
    rfl
  simp only [go_sem, h4, h5, eq_false (Ne.symm hbd), false_and, if_false, h6]
  trace_state
set_option maxRecDepth 20000 in
theorem pAdd_rc (l : Lg) (hz : zLg l) (en : Ent) (he : en.op.ser.size ≤ 2000) (M : List Blk) : CallR Try.prog M n_pglog_Add [lgA l, entA en] (.tup [lgA (addS l en).1, .i (addS l en).2]) M := by
  refine callPG F_pglog_Add (Nat.le_of_ble_eq_true rfl) (by simp only [go_sem]) ?_ M
  have hown := fun (A B C : Blk) (h : ∀ x ∈ [A, B, C], ltB 3 x) => pownB_rc l hz (M := [A, B, C]) h
  have hE := fun M => pEnd_rc l hz M
  have hL := fun M => pLast_rc l hz M
  have hC := fun M => CheckEntry_rc en he M
  obtain ⟨hb, hl, hs⟩ := id hz
  unfold addS
  refine run_seqV ?_
  simp only [go_sem]
  refine run_seqV ?_
  simp only [go_sem]
  refine call0 (pCheck_rc l hz) ?_
  simp only [go_sem]
  rw [ifne]
  cases hok : lgOk l with
  | false =>
    simp only [go_sem]
    exact end_zlog 1 _ _ 2 _ (by simp only [go_sem]) (by simp only [go_sem]) rfl
  | true =>
    simp only [go_sem]
    refine run_seqV ?_
    simp only [go_sem]
    refine call1 (hown _ _ _ ?_) (by simp only [go_sem]) (fun h => Bool.noConfusion h) ?_
    · simp only [go_sem, ltB]
    simp only [go_sem, List.length_cons, List.length_nil, Nat.zero_add, Nat.reduceAdd]
    have hEn : endL l = l.trim + l.tail.length := by rw [endL, hok, if_pos rfl]
    rw [hEn] at hE
    generalize lastL l = la at hL ⊢
    obtain ⟨epoch, client, id, op⟩ := en
    refine run_seqV ?_
    simp only [go_sem]
    refine call0 hC ?_
    simp only [go_sem]
    refine callLg (fun _ => hL []) (fun _ => ⟨snap_lg (b := 5) (v := 1) (f := false) rfl, trivial⟩) (by simp only [go_sem]) ?_
    simp only [go_sem]
    rw [ifne]
    refine ⟨fun hc => ?_, fun hc => ?_⟩
    · have hc' : entOk ⟨epoch, client, id, op⟩ = false ∨ epoch < la := by
        simp only [Bool.or_eq_true, Bool.not_eq_true', decide_eq_true_eq] at hc
        exact hc
      rw [if_pos hc']
      exact end_lgO l 1 _ _ 2 _ 5 1 false (by simp only [go_sem]) (by simp only [go_sem]) (by decide) rfl rfl
    · have hc' : ¬ (entOk ⟨epoch, client, id, op⟩ = false ∨ epoch < la) := by
        simp only [Bool.or_eq_false_iff, Bool.not_eq_false', decide_eq_false_iff_not] at hc
        rintro (h | h)
        · rw [hc.1] at h; cases h
        · exact hc.2 h
      rw [if_neg hc']
      refine callLg (fun _ => hE []) (fun _ => ⟨snap_lg (b := 5) (v := 1) (f := false) rfl, trivial⟩) (by simp only [go_sem]) ?_
      simp only [go_sem]
      refine ⟨fun hd => ?_, fun hd => ?_⟩
      · have hd' : l.tail.length = 32 ∨ l.trim + l.tail.length = 2147483647 := by
          simp only [Bool.or_eq_true, beq_iff_eq] at hd
          omega
        rw [if_pos hd']
        exact end_lgO l 6 _ _ 2 _ 5 1 false (by simp only [go_sem]) (by simp only [go_sem]) (by decide) rfl rfl
      · have hd' : ¬ (l.tail.length = 32 ∨ l.trim + l.tail.length = 2147483647) := by
          simp only [Bool.or_eq_false_iff, beq_eq_false_iff_ne] at hd
          omega
        rw [if_neg hd']
        have hrow : ∀ x : Ent, rowsL 10 Ent.c l.tail ++ [[AV.c (CV.v (Value.int IntKind.i64 x.epoch)), AV.c (CV.v (Value.int IntKind.i64 x.client)), AV.c (CV.v (Value.int IntKind.i64 x.id)), AV.c (CV.v (Value.int IntKind.i64 x.op.kind)), AV.c (CV.v (Value.string x.op.ser)), AV.c (CV.v (Value.int IntKind.i64 x.op.smp.t)), AV.c (CV.v (Value.int IntKind.i64 x.op.smp.v)), AV.c (CV.v (Value.int IntKind.i64 x.op.frm)), AV.c (CV.v (Value.int IntKind.i64 x.op.to)), AV.c (CV.v (Value.int IntKind.i64 x.op.tot))]] = rowsL 10 Ent.c (l.tail ++ [x]) := fun x => rowsL_app1 l.tail x
        refine V_sound ?_
        simp only [go_sem, rowsL_len]
        have hr := hrow ⟨epoch, client, id, op⟩
        simp only at hr
        rw [hr]
        have hlen : (l.tail ++ [(⟨epoch, client, id, op⟩ : Ent)]).length = l.tail.length + 1 := by simp
        rw [← hlen]
        exact ⟨by omega, end_lgO ⟨l.base, l.trim, l.epoch, l.tail ++ [⟨epoch, client, id, op⟩]⟩ 0 _ _ 2 _ 5 2 false (by simp only [go_sem]) (by simp only [go_sem]) (by decide) rfl rfl⟩
end Go.Proofs.Ytcmkhlfjcdchmaa.A
end
section
namespace Go.Proofs.Ytcmkhlfjcdchmaa.A
open Go Go.Proofs Go.Proofs.YtcmkhlfjcdchmaaAbs
structure Oth where
  trim : Int
  epoch : Int
  eps : List Int
abbrev othA (o : Oth) : Pt := .agg [.c (.v (.int .i64 o.trim)), .c (.v (.int .i64 o.epoch)), .c (immL 1 intC o.eps)]
def befO (o : Oth) (p : Int) : Int × Bool := if p - o.trim = 0 then (o.epoch, decide (0 < p)) else if 0 < p - o.trim ∧ p - o.trim ≤ o.eps.length then (o.eps.getD (p - o.trim - 1).toNat default, true) else (0, false)
theorem endIB {n : Nat} (v : Int) (b : Bool) (e : Nat → SV) (X : List Blk) (r s : Nat) (h4 : e r = .i v) (h5 : e s = .b b) : FinK n 0 [.t r, .t s] (.tup [.i v, .b b]) [] .ret ⟨e, X⟩ := by
  refine fin0 (.inr rfl) (qs := [.one (.c (.v (.int .i64 v))), .one (.c (.v (.bool b)))]) (cnd := True) ?_ trivial (SubS.refl _) (by simp only [go_sem])
  simp only [go_sem, h4, h5]
set_option maxRecDepth 20000 in
theorem before_rc (o : Oth) (p : Int) (h1 : -1000000000000 ≤ o.trim ∧ o.trim ≤ 1000000000000) (h2 : -1000000000000 ≤ p ∧ p ≤ 1000000000000) (M : List Blk) : CallR Try.prog M n_pglog_other_before [othA o, .i p] (.tup [.i (befO o p).1, .b (befO o p).2]) M := by
  refine callPG F_pglog_other_before (Nat.le_of_ble_eq_true rfl) (by simp only [go_sem]) ?_ M
  unfold befO
  refine run_seqV ?_
  simp only [go_sem]
  refine run_seqV ?_
  simp only [go_sem]
  rw [w64 (n := p - o.trim) (by omega) (by omega)]
  refine ⟨fun hc => ?_, fun hc => ?_⟩
  · rw [if_pos (by simpa using hc)]
    exact endIB _ _ _ _ 4 5 (by simp only [go_sem]) (by simp only [go_sem])
  · rw [if_neg (by simpa using hc)]
    refine ⟨fun hd => ?_, fun hd => ?_⟩
    · have hd : 0 < p - o.trim ∧ p - o.trim ≤ o.eps.length := by simpa using hd
      rw [if_pos hd, w64 (n := p - o.trim - 1) (by omega) (by omega)]
      refine ⟨by omega, ?_⟩
      exact endIB _ _ _ _ 4 5 (by simp only [go_sem]) (by simp only [go_sem])
    · rw [if_neg (by simpa using hd)]
      refine V_sound ?_
      simp only [go_sem]
      exact endIB _ _ _ _ 4 5 (by simp only [go_sem]) (by simp only [go_sem])
/-- The first number from lo on, of n, at which f holds. -/
def alkN (f : Int → Bool) (lo : Int) : Nat → Int
  | 0 => lo
  | n + 1 => if f lo = true then lo else alkN f (lo + 1) n
def difO (a b : Oth) (p : Int) : Bool := (befO a (p + 1)).1 != (befO b (p + 1)).1
def loO (a b : Oth) : Int := if a.trim < b.trim then b.trim else a.trim
def hiO (a b : Oth) : Int := if b.trim + b.eps.length < a.trim + a.eps.length then b.trim + b.eps.length else a.trim + a.eps.length
def alikeS (l : Lg) (b : Oth) : Int × Bool :=
  if lgOk l = false ∨ ¬ (0 ≤ b.trim ∧ b.trim ≤ 2147483647) ∨ 32 < b.eps.length then (0, false)
  else
    let a : Oth := ⟨l.trim, l.epoch, epsL l.tail⟩
    if hiO a b < loO a b ∨ ((befO a (loO a b)).2 = true ∧ (befO b (loO a b)).2 = true ∧ (befO a (loO a b)).1 ≠ (befO b (loO a b)).1) then (0, false)
    else (alkN (difO a b) (loO a b) (hiO a b - loO a b).toNat, true)
set_option maxRecDepth 20000 in
set_option maxHeartbeats 4000000 in
theorem Alike_rc (l : Lg) (hz : zLg l) (b : Oth) (hbl : b.eps.length ≤ 140737488355328) (M : List Blk) : CallR Try.prog M n_pglog_Alike [lgA l, .i b.trim, .i b.epoch, intsL b.eps] (.tup [.i (alikeS l b).1, .b (alikeS l b).2]) M := by
  refine callPG F_pglog_Alike (Nat.le_of_ble_eq_true rfl) (by simp only [go_sem]) ?_ M
  have hEp := fun M => pEpochs_rc l hz M
  unfold epochsL at hEp
  unfold alikeS
  refine run_seqV ?_
  simp only [go_sem]
  refine run_seqV ?_
  simp only [go_sem]
  refine call0 (pCheck_rc l hz) ?_
  simp only [go_sem]
  refine callg0 (fun _ => pin_rc b.trim 0 2147483647) ?_
  simp only [go_sem]
  rw [ifne]
  refine ⟨fun hc => ?_, fun hc => ?_⟩
  · rw [if_pos]
    · exact endIB 0 false _ _ 8 9 (by simp only [go_sem]) (by simp only [go_sem])
    · grind
  · have hg : lgOk l = true ∧ (0 ≤ b.trim ∧ b.trim ≤ 2147483647) ∧ b.eps.length ≤ 32 := by grind
    obtain ⟨hok, hbt, hbe⟩ := hg
    clear hc
    have hP := (lgOk_iff l).1 hok
    have p1 := hP.t0
    have p2 := hP.fit
    have p3 := ents_len hP.ents
    rw [hok, if_pos rfl] at hEp
    have hng : ¬ (lgOk l = false ∨ ¬ (0 ≤ b.trim ∧ b.trim ≤ 2147483647) ∨ 32 < b.eps.length) := by
      rintro (h | h | h)
      · rw [hok] at h; exact Bool.noConfusion h
      · exact h hbt
      · omega
    rw [if_neg hng]
    refine run_seqV ?_
    simp only [go_sem]
    refine callx0 hEp ?_
    simp only [go_sem]
    refine ⟨rfl, run_seqV ?_⟩
    simp only [go_sem]
    have hel := epsL_len l.tail
    rw [w64 (n := b.trim + b.eps.length) (by omega) (by omega), w64 (n := l.trim + (epsL l.tail).length) (by omega) (by omega)]
    obtain ⟨A, hA⟩ : ∃ A : Oth, A = ⟨l.trim, l.epoch, epsL l.tail⟩ := ⟨_, rfl⟩
    have hlo : (if l.trim < b.trim then b.trim else l.trim) = loO A b := by rw [hA]; rfl
    have hhi : (if b.trim + b.eps.length < l.trim + (epsL l.tail).length then b.trim + (b.eps.length : Int) else l.trim + (epsL l.tail).length) = hiO A b := by rw [hA]; rfl
    have hlb : 0 ≤ loO A b ∧ loO A b ≤ 2147483647 := by rw [← hlo]; split <;> omega
    have hhb : 0 ≤ hiO A b ∧ hiO A b ≤ 3000000000 := by rw [← hhi]; split <;> omega
    simp only [hlo, hhi, ← hA]
    have hAt : -1000000000000 ≤ A.trim ∧ A.trim ≤ 1000000000000 := by rw [hA]; simp only; omega
    have b1 := fun p (hp : -1000000000000 ≤ p ∧ p ≤ 1000000000000) M => before_rc A p hAt hp M
    have b2 := fun p (hp : -1000000000000 ≤ p ∧ p ≤ 1000000000000) M => before_rc b p (by omega) hp M
    have hAA : (othA A) = .agg [.c (.v (.int .i64 l.trim)), .c (.v (.int .i64 l.epoch)), .c (immL 1 intC (epsL l.tail))] := by rw [hA]
    simp only [hAA] at b1
    refine run_seqV ?_
    simp only [go_sem]
    refine call0 (b1 (loO A b) (by omega)) ?_
    simp only [go_sem]
    refine run_seqV ?_
    simp only [go_sem]
    refine call0 (b2 (loO A b) (by omega)) ?_
    simp only [go_sem]
    refine run_seqV ?_
    simp only [go_sem]
    refine ⟨fun hc => ?_, fun hc => ?_⟩
    · rw [if_pos]
      · exact endIB 0 false _ _ 8 9 (by simp only [go_sem]) (by simp only [go_sem])
      · grind
    · have hc' : ¬ (hiO A b < loO A b ∨ ((befO A (loO A b)).2 = true ∧ (befO b (loO A b)).2 = true ∧ (befO A (loO A b)).1 ≠ (befO b (loO A b)).1)) := by
        intro h
        revert hc
        rcases h with h | ⟨h1, h2, h3⟩
        · simp [h]
        · simp [h1, h2, h3]
      rw [if_neg hc']
      have hle : loO A b ≤ hiO A b := Int.not_lt.1 fun h => hc' (.inl h)
      clear hc hc'
      generalize hL : loO A b = lo at hlb hle ⊢
      generalize hH : hiO A b = hi at hhb hle ⊢
      obtain ⟨n, hn⟩ : ∃ n : Nat, hi = lo + n := ⟨(hi - lo).toNat, by omega⟩
      have hn2 : (hi - lo).toNat = n := by omega
      rw [hn2]
      refine run_seqV ?_
      simp only [go_sem]
      refine R_loop (ι := Nat) (J := fun k => k ≤ n ∧ alkN (difO A b) lo n = alkN (difO A b) (lo + k) (n - k))
        (env := fun k => [(10, .p (.one (.ptr 1 1 0 0))), (11, .p (.one (.ptr 2 1 0 0))), (13, .i hi), (18, .i (lo + k))])
        (mem := fun _ => [lgB l, .rows 76 3 1 [[.c (.v (.int .i64 l.trim)), .c (.v (.int .i64 l.epoch)), .c (immL 1 intC (epsL l.tail))]] true, .rows 76 3 1 [[.c (.v (.int .i64 b.trim)), .c (.v (.int .i64 b.epoch)), .c (immL 1 intC b.eps)]] true])
        (μ := fun k => n - k) 0 ⟨Nat.zero_le _, by simp⟩ ⟨[], rfl, Nat.zero_le _, ?_, ?_⟩ ?_
      · simp only [go_sem]
        omega
      · simp only [go_sem, ltB]
      rintro k ⟨hk, hal⟩
      refine run_seqV ?_
      simp only [go_sem]
      refine ⟨fun h1 => ?_, fun h1 => ?_⟩
      · have hkn : k < n := by omega
        refine run_seq ?_
        refine run_block ?_
        refine run_seqV ?_
        simp only [go_sem]
        rw [w64 (n := lo + k + 1) (by omega) (by omega)]
        refine call0 (b1 (lo + k + 1) (by omega)) ?_
        simp only [go_sem]
        refine run_seqV ?_
        simp only [go_sem]
        rw [w64 (n := lo + k + 1) (by omega) (by omega)]
        refine call0 (b2 (lo + k + 1) (by omega)) ?_
        simp only [go_sem]
        refine V_sound ?_
        simp only [go_sem]
        rw [show n - k = (n - k - 1) + 1 by omega, alkN] at hal
        refine ⟨fun hd => ?_, fun hd => ?_⟩
        · have hd : difO A b (lo + k) = true := by
            unfold difO
            simpa using hd
          rw [if_pos hd] at hal
          rw [hal]
          exact endIB _ _ _ _ 8 9 (by simp only [go_sem]) (by simp only [go_sem])
        · have hd : ¬ difO A b (lo + k) = true := by
            unfold difO
            simpa using hd
          rw [if_neg hd] at hal
          refine V_sound ?_
          simp only [go_sem]
          rw [w64 (n := lo + k + 1) (by omega) (by omega)]
          refine ⟨k + 1, ⟨hkn, ?_⟩, by omega, [], rfl, Nat.zero_le _, ?_, ?_⟩
          · rw [hal, show n - k - 1 = n - (k + 1) by omega]
            congr 1
            omega
          · simp only [go_sem]
            omega
          · simp only [go_sem, ltB]
      · have hkn : k = n := by omega
        subst hkn
        rw [Nat.sub_self, alkN] at hal
        refine V_sound ?_
        simp only [go_sem]
        rw [hal, ← hn]
        exact endIB _ _ _ _ 8 9 (by simp only [go_sem]) (by simp only [go_sem])
theorem snapP_same {M : List Blk} {l : List AV} (h : ∀ a ∈ l, ltA 0 a) : SnapP M (.agg l) (.agg l) := by
  refine ⟨rfl, fun k a a' h1 h2 => ?_⟩
  rw [h1] at h2
  injection h2 with h2
  subst h2
  exact Snap.same _ (h _ (List.mem_of_getElem? h1))
theorem snap_lgA {M : List Blk} (l : Lg) : SnapP M (lgA l) (lgA l) := snapP_same fun a ha => by
  simp only [List.mem_cons, List.not_mem_nil, or_false] at ha
  rcases ha with rfl | rfl | rfl | rfl | rfl | rfl <;> trivial
def awE (epoch id : Int) : Ent := ⟨epoch, 1, id, ⟨1, mkS [97], ⟨id, 1⟩, 0, 0, 0⟩⟩
theorem entry_rc (epoch id : Int) (M : List Blk) : CallR Try.prog M n_windroselaw28_entry [.i epoch, .i id] (.p (entA (awE epoch id))) M := by
  refine callPG F_windroselaw28_entry (Nat.le_of_ble_eq_true rfl) (by simp only [go_sem]) ?_ M
  refine V_sound ?_
  simp only [c_windroselaw28_entry, go_sem]
  exact fin0 (.inr rfl) (qs := [entA (awE epoch id)]) (cnd := True) (by simp only [go_sem, awE]; rfl) trivial (SubS.refl _) (by simp only [go_sem])
def awL (t : List Ent) : Lg := ⟨⟨[], [], 0⟩, 0, 0, t⟩
theorem aw28_1 : addS (awL []) (awE 1 1) = (awL [awE 1 1], 0) := by kernel_rfl
theorem aw28_2 : addS (awL [awE 1 1]) (awE 1 2) = (awL [awE 1 1, awE 1 2], 0) := by kernel_rfl
theorem aw28_3 : addS (awL [awE 1 1, awE 1 2]) (awE 2 3) = (awL [awE 1 1, awE 1 2, awE 2 3], 0) := by kernel_rfl
theorem aw28_4 : alikeS (awL [awE 1 1, awE 1 2, awE 2 3]) ⟨0, 0, [1, 3]⟩ = (1, true) := by kernel_rfl
theorem aw28_5 : endL (awL [awE 1 1, awE 1 2, awE 2 3]) = 3 := by kernel_rfl
theorem aw28_6 : lastL (awL [awE 1 1, awE 1 2, awE 2 3]) = 2 := by kernel_rfl
theorem awE_sz (epoch id : Int) : (awE epoch id).op.ser.size ≤ 2000 := (by decide : (mkS [97]).size ≤ 2000)
theorem awL_z {t : List Ent} (h : t.length ≤ 1000) (h2 : ∀ e ∈ t, ∃ a b, e = awE a b) : zLg (awL t) := ⟨shP_z zP (zSz 2000), h, fun e he => by
  obtain ⟨a, b, rfl⟩ := h2 e he
  exact awE_sz a b⟩
set_option maxRecDepth 20000 in
set_option maxHeartbeats 4000000 in
theorem awake28_rc (M : List Blk) : CallR Try.prog M n_windroselaw28_awake [] (.b true) M := by
  refine callPG F_windroselaw28_awake (Nat.le_of_ble_eq_true rfl) (by simp only [go_sem]) ?_ M
  have z0 : zLg (awL []) := awL_z (by decide) (fun e he => by cases he)
  have z1 : zLg (awL [awE 1 1]) := awL_z (by decide) (fun e he => by rw [List.mem_singleton] at he; exact ⟨_, _, he⟩)
  have z2 : zLg (awL [awE 1 1, awE 1 2]) := awL_z (by decide) (fun e he => by
    simp only [List.mem_cons, List.not_mem_nil, or_false] at he
    rcases he with rfl | rfl <;> exact ⟨_, _, rfl⟩)
  have z3 : zLg (awL [awE 1 1, awE 1 2, awE 2 3]) := awL_z (by decide) (fun e he => by
    simp only [List.mem_cons, List.not_mem_nil, or_false] at he
    rcases he with rfl | rfl | rfl <;> exact ⟨_, _, rfl⟩)
  have a1 := fun M => pAdd_rc _ z0 (awE 1 1) (awE_sz _ _) M
  have a2 := fun M => pAdd_rc _ z1 (awE 1 2) (awE_sz _ _) M
  have a3 := fun M => pAdd_rc _ z2 (awE 2 3) (awE_sz _ _) M
  have a4 := fun M => Alike_rc _ z3 ⟨0, 0, [1, 3]⟩ (by decide) M
  have a5 := fun M => pEnd_rc _ z3 M
  have a6 := fun M => pLast_rc _ z3 M
  simp only [aw28_1, aw28_2, aw28_3, aw28_4, aw28_5, aw28_6] at a1 a2 a3 a4 a5 a6
  refine run_seqV ?_
  simp only [go_sem]
  refine run_seqV ?_
  simp only [go_sem]
  refine call0 (entry_rc 1 1) ?_
  simp only [go_sem]
  refine callS (a1 _) ⟨subP_aggL ⟨nil_sub (α := Lin), nil_sub (α := Dn), SubA.refl _, SubA.refl _, SubA.refl _, nil_sub (α := Ent), trivial⟩, SubP.refl _, trivial⟩ (fun h => Bool.noConfusion h) ?_
  simp only [go_sem]
  refine run_seqV ?_
  simp only [go_sem]
  refine call0 (entry_rc 1 2) ?_
  simp only [go_sem]
  refine call0 a2 ?_
  simp only [go_sem]
  refine run_seqV ?_
  simp only [go_sem]
  refine call0 (entry_rc 2 3) ?_
  simp only [go_sem]
  refine call0 a3 ?_
  simp only [go_sem]
  refine run_seqV ?_
  simp only [go_sem]
  refine callL (a4 []) ⟨snap_lgA _, Snap.same _ trivial, Snap.same _ trivial, snapL (c := intC) [1, 3] rfl, trivial⟩ (by simp only [go_sem]) ?_
  simp only [go_sem]
  refine run_seqV ?_
  simp only [go_sem]
  refine callg0 (fun _ => a5) ?_
  simp only [go_sem]
  trace_state
  refine callg0 (fun _ => a6) ?_
  simp only [go_sem]
  exact run_ret (endB true _ _ 0 (by simp only [go_sem]; try rfl))
end Go.Proofs.Ytcmkhlfjcdchmaa.A
end
section
namespace Go.Proofs.Ytcmkhlfjcdchmaa.A
open Go Go.Proofs Go.Proofs.YtcmkhlfjcdchmaaAbs
theorem ent_ext {x y : Ent} : x = y ↔ x.epoch = y.epoch ∧ x.client = y.client ∧ x.id = y.id ∧ x.op = y.op := by
  cases x; cases y; simp
instance : DecidableEq Ent := fun a b => decidable_of_iff' _ ent_ext
end Go.Proofs.Ytcmkhlfjcdchmaa.A
end
section
namespace Go.Proofs.Ytcmkhlfjcdchmaa.A
open Go Go.Proofs Go.Proofs.YtcmkhlfjcdchmaaAbs
/-- A log that may be looked at and whose names are short. -/
structure lgZ (l : Lg) : Prop where
  z : zLg l
  sz : serSz 2000 l.base
end Go.Proofs.Ytcmkhlfjcdchmaa.A
end
section
namespace Go.Proofs.Ytcmkhlfjcdchmaa.A
open Go Go.Proofs Go.Proofs.YtcmkhlfjcdchmaaAbs
theorem endLI {n : Nat} (x : Lg) (v : Int) (e : Nat → SV) (X : List Blk) (b t : Nat) (h4 : e 4 = .p (.one (.ptr b 0 0 0))) (h5 : e 5 = .i v) (hX : X[b]? = some (.rows t 6 0 [lgCells x] true)) : FinK n 0 [.l true 6 4, .t 5] (.tup [lgA x, .i v]) [] .ret ⟨e, X⟩ := by
  refine fin0 (.inr rfl) (qs := [lgA x, .i v]) (cnd := True) ?_ trivial (SubS.refl _) (by simp only [go_sem])
  simp only [go_sem, h4, h5, hX]
theorem le_take {l : List Ent} {k : Nat} (h : k ≤ l.length) : lePt (.one (.c (.imm 10 k fun i j => Ent.c (l.getD i default) j))) (immP 10 Ent.c (l.take k)) := by
  rw [lePt_imm]
  refine ⟨by rw [List.length_take]; omega, .inr ⟨rfl, fun i hi j hj => ?_⟩⟩
  rw [List.getD_eq_getElem?_getD, List.getD_eq_getElem?_getD, List.getElem?_take, if_pos hi]
def cutG (l : Lg) (p : Int) : Lg × Int := if lgOk l = false then (zLog, 1) else if placeL l p ≠ 0 then (l, placeL l p) else (⟨l.base, l.trim, l.epoch, l.tail.take (p - l.trim).toNat⟩, 0)
theorem place_in {l : Lg} {p : Int} (h : placeL l p = 0) : l.trim ≤ p ∧ p ≤ l.trim + l.tail.length := by
  unfold placeL at h
  split at h
  · cases h
  split at h
  · cases h
  · omega
set_option maxRecDepth 20000 in
theorem pCut_rc (l : Lg) (hz : zLg l) (p : Int) (M : List Blk) : CallR Try.prog M n_pglog_Cut [lgA l, .i p] (.tup [lgA (cutG l p).1, .i (cutG l p).2]) M := by
  refine callPG F_pglog_Cut (Nat.le_of_ble_eq_true rfl) (by simp only [go_sem]) ?_ M
  have hC := fun M => pCheck_rc l hz M
  unfold cutG
  refine run_seqV ?_
  simp only [go_sem]
  cases hok : lgOk l with
  | false =>
    rw [hok] at hC
    refine run_seqV ?_
    simp only [go_sem]
    refine call0 hC ?_
    simp only [go_sem]
    exact end_zlog 1 _ _ 1 _ (by simp only [go_sem]) (by simp only [go_sem]) rfl
  | true =>
    rw [hok] at hC
    have hP := (lgOk_iff l).1 hok
    have p1 := hP.t0
    have p2 := hP.fit
    have p3 := ents_len hP.ents
    refine run_seqV ?_
    simp only [go_sem]
    refine call0 hC ?_
    simp only [go_sem]
    refine run_seqV ?_
    simp only [go_sem]
    refine call0 (pown_rc l hz) ?_
    simp only [go_sem]
    refine run_seqV ?_
    simp only [go_sem]
    refine call0 (pplace_rc l hz hok p) ?_
    simp only [go_sem]
    refine ⟨fun hd => ?_, fun hd => ?_⟩
    · rw [if_pos hd]
      exact endLI l (placeL l p) _ _ 1 _ (by simp only [go_sem]) (by simp only [go_sem]) rfl
    · have hd : placeL l p = 0 := by simpa using hd
      obtain ⟨q1, q2⟩ := place_in hd
      rw [if_neg (by rw [hd]; simp)]
      obtain ⟨k, hk⟩ : ∃ k : Nat, p - l.trim = k := ⟨(p - l.trim).toNat, by omega⟩
      refine run_seqV ?_
      simp only [go_sem]
      rw [w64 (n := p - l.trim) (by omega) (by omega), hk]
      simp only [Int.toNat_natCast, Nat.sub_zero, Nat.zero_add]
      refine ⟨by omega, call1 (clone_rc (c := Ent.c) F_slices_Clone_api_Entry_api_Entry (l.tail.take k) (by rw [List.length_take]; omega) _) ⟨le_take (by omega), trivial⟩ (fun h => Bool.noConfusion h) ?_⟩
      simp only [go_sem]
      refine V_sound ?_
      simp only [go_sem]
      exact endLI ⟨l.base, l.trim, l.epoch, l.tail.take k⟩ 0 _ _ 1 _ (by simp only [go_sem]) (by simp only [go_sem]) rfl
theorem lg_ext {x y : Lg} : x = y ↔ x.base = y.base ∧ x.trim = y.trim ∧ x.epoch = y.epoch ∧ x.tail = y.tail := by
  cases x; cases y; simp
instance : DecidableEq Lg := fun a b => decidable_of_iff' _ lg_ext
def light28B (l : Lg) : Bool := light14B l.base && decide (l.tail.length ≤ 40) && l.tail.all fun e => decide (e.op.ser.size ≤ 300)
set_option maxRecDepth 20000 in
theorem light28_rc (l : Lg) (hl : l.tail.length ≤ 140737488355328) (hb : l.base.lines.length ≤ 140737488355328) (M : List Blk) : CallR Try.prog M n_windroselaw28_Light [lgA l] (.b (light28B l)) M := by
  refine callPG F_windroselaw28_Light (Nat.le_of_ble_eq_true rfl) (by simp only [go_sem]) ?_ M
  refine run_seqV ?_
  simp only [go_sem]
  refine run_seqV ?_
  simp only [go_sem]
  refine R_loop (ι := Nat) (J := fun k => k ≤ l.tail.length ∧ k ≤ 40 ∧ ∀ i, i < k → decide ((l.tail.getD i default).op.ser.size ≤ 300) = true)
    (env := fun k => [(1, .p (.one (.ptr 0 0 0 0))), (3, .i k)])
    (mem := fun _ => [lgB l])
    (μ := fun k => l.tail.length - k) 0 ⟨Nat.zero_le _, Nat.zero_le _, fun i hi => absurd hi (Nat.not_lt_zero _)⟩ ⟨[], rfl, Nat.zero_le _, ?_, ?_⟩ ?_
  · simp only [go_sem]
  · simp only [go_sem, ltB]
  rintro k ⟨hk, hk4, hok⟩
  refine run_seqV ?_
  simp only [go_sem]
  refine ⟨fun h1 => ?_, fun h1 => ?_⟩
  · have h1 : k < l.tail.length ∧ k < 40 := by
      simp only [Bool.and_eq_true, decide_eq_true_eq] at h1
      omega
    refine run_seq ?_
    refine run_block ?_
    refine V_sound ?_
    simp only [go_sem]
    refine ⟨by omega, fun hc => ?_, fun hc => ?_⟩
    · have : (l.tail.all fun e => decide (e.op.ser.size ≤ 300)) = false := all_no h1.1 (by
        rw [decide_eq_false_iff_not]
        omega)
      rw [light28B, this, Bool.and_false]
      exact endB false _ _ 2 (by simp only [go_sem])
    · refine V_sound ?_
      simp only [go_sem, w64s (show k < 9223372036854775807 by omega)]
      refine ⟨k + 1, ⟨by omega, by omega, fun i hi => ?_⟩, by omega, [], rfl, Nat.zero_le _, ?_, ?_⟩
      · by_cases e : i = k
        · subst e
          omega
        · exact of_decide_eq_true (hok i (by omega))
      · simp only [go_sem]
      · simp only [go_sem, ltB]
  · refine run_seqV ?_
    simp only [go_sem]
    refine call0 (light14_rc l.base hb) ?_
    simp only [go_sem]
    have e : light28B l = (light14B l.base && decide ((l.tail.length : Int) ≤ 40)) := by
      rw [light28B]
      by_cases h8 : l.tail.length ≤ 40
      · have hkl : k = l.tail.length := by
          simp only [Bool.and_eq_false_iff, decide_eq_false_iff_not] at h1
          omega
        subst hkl
        rw [show (l.tail.all fun e => decide (e.op.ser.size ≤ 300)) = true from all_yes hok, Bool.and_true]
        congr 1
        rw [decide_eq_decide]
        omega
      · rw [decide_eq_false h8, decide_eq_false (show ¬ (l.tail.length : Int) ≤ 40 by omega)]
        simp
    rw [e]
    exact run_ret (endB _ _ _ 2 (by simp only [go_sem]))
theorem light28_z {l : Lg} (h : light28B l = true) : lgZ l ∧ serSz 500 l.base ∧ ∀ e ∈ l.tail, e.op.ser.size ≤ 300 := by
  unfold light28B at h
  rw [Bool.and_eq_true, Bool.and_eq_true, List.all_eq_true] at h
  obtain ⟨⟨h1, h2⟩, h3⟩ := h
  obtain ⟨k1, k2⟩ := light_z h1
  have h2 := of_decide_eq_true h2
  have h4 : ∀ e ∈ l.tail, e.op.ser.size ≤ 300 := fun e he => of_decide_eq_true (h3 e he)
  exact ⟨⟨⟨k1, by omega, fun e he => by have := h4 e he; omega⟩, fun x hx => by have := k2 x hx; omega⟩, k2, h4⟩
end Go.Proofs.Ytcmkhlfjcdchmaa.A
end
section
namespace Go.Proofs.Ytcmkhlfjcdchmaa.A
open Go Go.Proofs Go.Proofs.YtcmkhlfjcdchmaaAbs
theorem end_lgO3 {n : Nat} (l : Lg) (q : Bool) (c : Int) (e : Nat → SV) (X : List Blk) (b t d v : Nat) (f : Bool) (h6 : e 6 = .p (.one (.ptr b 0 0 0))) (h7 : e 7 = .b q) (h8 : e 8 = .i c) (hbd : d ≠ b) (hX : X[b]? = some (.rows t 6 0 [lgO l d v l.tail.length] true)) (hd : X[d]? = some (enR v l.tail f)) : FinK n 0 [.l true 6 6, .t 7, .t 8] (.tup [lgA l, .b q, .i c]) [] .ret ⟨e, X⟩ := by
  refine finQ (.inr rfl) (gh_freeze (b := d) (l := rowsL 10 Ent.c l.tail) hd (rowsL_closed l.tail)) (qs := [.agg [.c (immL 2 Lin.c l.base.lines), .c (immL 5 Dn.c l.base.dones), .c (.v (.int .i64 l.base.floor)), .c (.v (.int .i64 l.trim)), .c (.v (.int .i64 l.epoch)), .c (.imm 10 l.tail.length fun i j => toC (((rowsL 10 Ent.c l.tail).getD (0 + i) []).getD j default))], .b q, .i c]) (cnd := True) ?_ trivial (subS_tupL ⟨subP_aggL ⟨SubA.refl _, SubA.refl _, SubA.refl _, SubA.refl _, SubA.refl _, frz_sub _, trivial⟩, SubP.refl _, SubP.refl _, trivial⟩) (by simp only [go_sem])
  have h6' : ((X.map (frzB d v (rowsL 10 Ent.c l.tail))).set d .dead)[b]? = some (frzB d v (rowsL 10 Ent.c l.tail) (.rows t 6 0 [lgO l d v l.tail.length] true)) := by
    rw [List.getElem?_set, if_neg hbd, List.getElem?_map, hX]
    rfl
  simp only [go_sem, h6, h7, h8, eq_false (Ne.symm hbd), false_and, if_false, h6']
def putTail : C :=
 (.seq (.block 2 (.seq (.reg false [⟨some 64, .mv (.t 2), none⟩, ⟨some 65, .len (.t 64), none⟩, ⟨some 66, .bin .eql (.t 65) (ki 0), none⟩, ⟨some 63, .mv (.t 66), none⟩])
 (.cond (.t 63)
 (.seq (.reg false [⟨some 67, .ld true 6 (.t 3), none⟩, ⟨none, .st 6 (.t 6) (.t 67), none⟩, ⟨some 7, .mv (kb false), none⟩, ⟨some 8, .mv (ki 0), none⟩])
 .ret)
 (.seq (.reg true [⟨some 69, .mv (.t 2), none⟩, ⟨some 70, .ia 10 (.t 69) (ki 0), none⟩, ⟨some 71, .fa 0 (.t 70), none⟩, ⟨some 72, .ld false 1 (.t 71), none⟩, ⟨some 73, .ld true 6 (.t 3), none⟩, ⟨some 74, .fa 3 (.t 3), none⟩, ⟨some 75, .ld false 1 (.t 74), none⟩, ⟨some 76, .mv (.t 10), none⟩, ⟨some 77, .bin .add (.t 75) (.t 76), none⟩, ⟨some 78, .call (kf 41) [(.t 73), (.t 77)], none⟩, ⟨some 79, .bin .lss (.t 72) (.t 78), none⟩, ⟨some 68, .mv (.t 79), none⟩])
 (.cond (.t 68)
 (.seq (.reg false [⟨some 80, .ld true 6 (.t 3), none⟩, ⟨none, .st 6 (.t 6) (.t 80), none⟩, ⟨some 7, .mv (kb false), none⟩, ⟨some 8, .mv (ki 1), none⟩])
 .ret)
 (.seq (.reg false [⟨some 82, .mv (.t 10), none⟩, ⟨some 83, .mv (.t 2), none⟩, ⟨some 84, .len (.t 83), none⟩, ⟨some 85, .bin .sub (ki 32) (.t 84), none⟩, ⟨some 86, .bin .gtr (.t 82) (.t 85), none⟩, ⟨some 87, .mv (.t 86), none⟩, ⟨some 88, .fa 3 (.t 3), some (87, false)⟩, ⟨some 89, .ld false 1 (.t 88), some (87, false)⟩, ⟨some 90, .mv (.t 10), some (87, false)⟩, ⟨some 91, .bin .add (.t 89) (.t 90), some (87, false)⟩, ⟨some 92, .mv (.t 2), some (87, false)⟩, ⟨some 93, .len (.t 92), some (87, false)⟩, ⟨some 94, .bin .sub (ki 2147483647) (.t 93), some (87, false)⟩, ⟨some 95, .bin .gtr (.t 91) (.t 94), some (87, false)⟩, ⟨some 96, .pick (.t 87) (kb true) (.t 95), none⟩, ⟨some 81, .mv (.t 96), none⟩])
 (.cond (.t 81)
 (.seq (.reg false [⟨some 97, .ld true 6 (.t 3), none⟩, ⟨none, .st 6 (.t 6) (.t 97), none⟩, ⟨some 7, .mv (kb false), none⟩, ⟨some 8, .mv (ki 6), none⟩])
 .ret)
 .skip)))))))
 (.seq (.reg false [⟨some 98, .fa 5 (.t 3), none⟩, ⟨some 99, .ld false 1 (.t 98), none⟩, ⟨some 100, .mv (.t 10), none⟩, ⟨some 101, .mv (.t 10), none⟩, ⟨some 102, .s3f (.t 99) (.t 100) (.t 101), none⟩, ⟨some 103, .mv (.t 2), none⟩, ⟨some 104, .app 27 10 88 [.int .i64 0, .int .i64 0, .int .i64 0, .int .i64 0, .string ⟨#[]⟩, .int .i64 0, .int .i64 0, .int .i64 0, .int .i64 0, .int .i64 0] (.t 102) (.t 103), none⟩, ⟨some 105, .fa 5 (.t 3), none⟩, ⟨none, .st 1 (.t 105) (.t 104), none⟩])
 (.seq (.reg false [⟨some 106, .ld true 6 (.t 3), none⟩, ⟨none, .st 6 (.t 6) (.t 106), none⟩, ⟨some 7, .mv (kb true), none⟩, ⟨some 8, .mv (ki 0), none⟩])
 .ret)))
def putT (l : Lg) (k j : Nat) (es : List Ent) : Lg × Bool × Int :=
  if es.length = j then (l, false, 0)
  else if (es.getD j default).epoch < befL l (l.trim + k + j) then (l, false, 1)
  else if 32 < k + j + (es.length - j) ∨ 2147483647 < l.trim + k + j + (es.length - j) then (l, false, 6)
  else (⟨l.base, l.trim, l.epoch, l.tail.take (k + j) ++ es.drop j⟩, true, 0)
set_option maxRecDepth 20000 in
theorem putTail_run (l : Lg) (hz : zLg l) (hok : lgOk l = true) (k j : Nat) (hk : k + j ≤ l.tail.length) (es : List Ent) (hel : es.length ≤ 1000) (hj : j ≤ es.length) (e : Nat → SV) (h2 : e 2 = .p (entL (es.drop j))) (h3 : e 3 = .p (.one (.ptr 0 0 0 0))) (h6 : e 6 = .p (.one (.ptr 1 0 0 0))) (h10 : e 10 = .i ((k + j : Nat) : Int)) :
    Run Try.prog 107 0 putTail ⟨e, [.rows 51 6 0 [lgO l 4 1 l.tail.length] true, .rows 51 6 0 [[.c (.v (.slice none 0 0)), .c (.v (.slice none 0 0)), .c (.v (.int .i64 0)), .c (.v (.int .i64 0)), .c (.v (.int .i64 0)), .c (.v (.slice none 0 0))]] true, .dead, .rows 51 6 0 [lgO l 4 1 l.tail.length] true, enR 1 l.tail false]⟩
      (FinK 107 0 [.l true 6 6, .t 7, .t 8] (.tup [lgA (putT l k j es).1, .b (putT l k j es).2.1, .i (putT l k j es).2.2]) []) := by
  have hP := (lgOk_iff l).1 hok
  have p1 := hP.t0
  have p2 := hP.fit
  have p3 := ents_len hP.ents
  have hd0 : (es.drop j).getD 0 default = es.getD j default := by rw [List.getD_eq_getElem?_getD, List.getD_eq_getElem?_getD, List.getElem?_drop, Nat.add_zero]
  have ew : IntKind.i64.wrap (l.trim + ((k + j : Nat) : Int)) = l.trim + k + j := by rw [w64 (by omega) (by omega)]; omega
  unfold putT putTail
  refine run_seq ?_
  refine run_block ?_
  refine run_seqV ?_
  simp only [go_sem, h2, h3, h6, h10, List.length_drop]
  refine V_sound ?_
  simp only [go_sem, h2, h3, h6, h10, List.length_drop]
  refine ⟨fun hc => ?_, fun hc => ?_⟩
  · rw [if_pos (show es.length = j by omega)]
    exact end_lgO3 l false 0 _ _ 1 _ 4 1 false (by simp only [go_sem, h6]) (by simp only [go_sem]) (by simp only [go_sem]) (by decide) rfl rfl
  rw [if_neg (show ¬ es.length = j by omega), ew]
  refine ⟨by omega, callL (pbefore_rc l (l.trim + k + j) p1 (by omega) (by omega) p2 []) ⟨snap_lg (b := 4) (v := 1) (f := false) rfl, Snap.same _ trivial, trivial⟩ (by simp only [go_sem]) ?_⟩
  simp only [go_sem, h2, h3, h6, h10, List.length_drop, hd0]
  refine ⟨fun hc => ?_, fun hc => ?_⟩
  · rw [if_pos (show (es.getD j default).epoch < befL l (l.trim + k + j) from hc)]
    exact end_lgO3 l false 1 _ _ 1 _ 4 1 false (by simp only [go_sem, h6]) (by simp only [go_sem]) (by simp only [go_sem]) (by decide) rfl rfl
  rw [if_neg (show ¬ (es.getD j default).epoch < befL l (l.trim + k + j) from hc)]
  have e1 : IntKind.i64.wrap (32 - ((es.length - j : Nat) : Int)) = 32 - ((es.length - j : Nat) : Int) := w64 (by omega) (by omega)
  have e2 : IntKind.i64.wrap (2147483647 - ((es.length - j : Nat) : Int)) = 2147483647 - ((es.length - j : Nat) : Int) := w64 (by omega) (by omega)
  simp only [go_sem, e1, e2, ew]
  refine ⟨fun hc => ?_, fun hc => ?_⟩
  · rw [if_pos (by simp only [Bool.or_eq_true, decide_eq_true_eq] at hc; omega)]
    exact end_lgO3 l false 6 _ _ 1 _ 4 1 false (by simp only [go_sem, h6]) (by simp only [go_sem]) (by simp only [go_sem]) (by decide) rfl rfl
  rw [if_neg (by simp only [Bool.or_eq_false_iff, decide_eq_false_iff_not] at hc; omega)]
  refine run_seqV ?_
  simp only [go_sem, h2, h3, h6, h10, List.length_drop]
  have hr := imm_rowsL' (c := Ent.c) (sz := 10) (es.drop j)
  rw [List.length_drop] at hr
  simp only [go_sem] at hr
  have hlen : k + j + (es.length - j) = (l.tail.take (k + j) ++ es.drop j).length := by rw [List.length_append, List.length_take, List.length_drop]; omega
  refine ⟨⟨by omega, hk⟩, ⟨hk, by omega, by omega⟩, ?_⟩
  rw [rowsL_take, hr, rowsL_app, hlen]
  refine V_sound ?_
  simp only [go_sem, h3, h6]
  exact end_lgO3 ⟨l.base, l.trim, l.epoch, l.tail.take (k + j) ++ es.drop j⟩ true 0 _ _ 1 _ 5 0 false (by simp only [go_sem, h6]) (by simp only [go_sem]) (by simp only [go_sem]) (by decide) rfl rfl
end Go.Proofs.Ytcmkhlfjcdchmaa.A
end
section
namespace Go.Proofs.Ytcmkhlfjcdchmaa.A
open Go Go.Proofs Go.Proofs.YtcmkhlfjcdchmaaAbs
def fromS (l : Lg) (p n : Int) : List Ent × Int :=
  if lgOk l = false ∨ ¬ (1 ≤ n ∧ n ≤ 32) then ([], 1) else if placeL l p ≠ 0 then ([], placeL l p) else ((l.tail.drop (p - l.trim).toNat).take n.toNat, 0)
theorem end_noents {n : Nat} (v : Int) (e : Nat → SV) (X : List Blk) (h6 : e 6 = .p (.one (.c (.v (.slice none 0 0))))) (h7 : e 7 = .i v) : FinK n 0 [.t 6, .t 7] (.tup [entL [], .i v]) [] .ret ⟨e, X⟩ := by
  refine fin0 (.inr rfl) (qs := [.one (.c (.v (.slice none 0 0))), .i v]) (cnd := True) ?_ trivial (subS_tupL ⟨subP_one (nil_sub (α := Ent)), SubP.refl _, trivial⟩) (by simp only [go_sem])
  simp only [go_sem, h6, h7]
theorem end_ents {n : Nat} (l : List Ent) (v : Int) (e : Nat → SV) (X : List Blk) (h6 : e 6 = .p (entL l)) (h7 : e 7 = .i v) : FinK n 0 [.t 6, .t 7] (.tup [entL l, .i v]) [] .ret ⟨e, X⟩ := by
  refine fin0 (.inr rfl) (qs := [entL l, .i v]) (cnd := True) ?_ trivial (SubS.refl _) (by simp only [go_sem])
  simp only [go_sem, h6, h7]
set_option maxRecDepth 20000 in
theorem pFrom_rc (l : Lg) (hz : zLg l) (p n : Int) (M : List Blk) : CallR Try.prog M n_pglog_From [lgA l, .i p, .i n] (.tup [entL (fromS l p n).1, .i (fromS l p n).2]) M := by
  refine callPG F_pglog_From (Nat.le_of_ble_eq_true rfl) (by simp only [go_sem]) ?_ M
  have hC := fun M => pCheck_rc l hz M
  unfold fromS
  refine run_seqV ?_
  simp only [go_sem]
  refine run_seqV ?_
  simp only [go_sem]
  refine call0 hC ?_
  simp only [go_sem]
  rw [ifne]
  refine callg0 (fun _ => pin_rc n 1 32) ?_
  simp only [go_sem]
  refine ⟨fun hc => ?_, fun hc => ?_⟩
  · have hc' : lgOk l = false ∨ ¬ (1 ≤ n ∧ n ≤ 32) := by
      simp only [Bool.or_eq_true, Bool.not_eq_true', decide_eq_false_iff_not] at hc
      rcases hc with h | h | h
      · exact .inl h
      · exact .inr fun k => h k.1
      · exact .inr fun k => h k.2
    rw [if_pos hc']
    exact end_noents 1 _ _ (by simp only [go_sem]) (by simp only [go_sem])
  · have hc' : lgOk l = true ∧ 1 ≤ n ∧ n ≤ 32 := by
      simp only [Bool.or_eq_false_iff, Bool.not_eq_false', decide_eq_true_eq] at hc
      exact ⟨hc.1, hc.2.1, hc.2.2⟩
    obtain ⟨hok, hn1, hn2⟩ := hc'
    have hcond : ¬ (lgOk l = false ∨ ¬ (1 ≤ n ∧ n ≤ 32)) := fun h => h.elim (fun h => Bool.noConfusion (h.symm.trans hok)) (fun h => h ⟨hn1, hn2⟩)
    rw [if_neg hcond]
    have hP := (lgOk_iff l).1 hok
    have p1 := hP.t0
    have p2 := hP.fit
    have p3 := ents_len hP.ents
    refine run_seqV ?_
    simp only [go_sem]
    refine call0 (pplace_rc l hz hok p) ?_
    simp only [go_sem]
    refine ⟨fun hd => ?_, fun hd => ?_⟩
    · rw [if_pos hd]
      exact end_noents _ _ _ (by first | rfl | simp only [go_sem]) (by first | rfl | simp only [go_sem])
    · have hd : placeL l p = 0 := by simpa using hd
      obtain ⟨q1, q2⟩ := place_in hd
      rw [if_neg (not_not_intro hd)]
      obtain ⟨k, hk⟩ : ∃ k : Nat, p - l.trim = k := ⟨(p - l.trim).toNat, by omega⟩
      obtain ⟨m, rfl⟩ : ∃ m : Nat, n = m := ⟨n.toNat, by omega⟩
      refine run_seqV ?_
      simp only [go_sem]
      rw [w64 (n := p - l.trim) (by omega) (by omega), hk]
      simp only [Int.toNat_natCast]
      refine ⟨by omega, run_seqV ?_⟩
      simp only [go_sem]
      have hmn : (if l.tail.length - k < m then ((l.tail.length - k : Nat) : Int) else (m : Int)) = ((min m (l.tail.length - k) : Nat) : Int) := by split <;> omega
      have htk : (l.tail.drop k).take (min m (l.tail.length - k)) = (l.tail.drop k).take m := by
        rcases Nat.le_total m (l.tail.length - k) with h | h
        · rw [Nat.min_eq_left h]
        · rw [Nat.min_eq_right h, List.take_of_length_le (by rw [List.length_drop]; exact Nat.le_refl _), List.take_of_length_le (by rw [List.length_drop]; exact h)]
      rw [hmn]
      simp only [Int.toNat_natCast]
      refine ⟨by omega, call1 (clone_rc (c := Ent.c) F_slices_Clone_api_Entry_api_Entry ((l.tail.drop k).take (min m (l.tail.length - k))) (by rw [List.length_take]; omega) _) ⟨le_slice (c := Ent.c) (sz := 10) (by omega), trivial⟩ (fun h => Bool.noConfusion h) ?_⟩
      rw [htk]
      simp only [go_sem]
      refine V_sound ?_
      simp only [go_sem]
      exact end_ents ((l.tail.drop k).take m) 0 _ _ (by simp only [go_sem]) (by simp only [go_sem])
def skipE : List Ent → List Ent → Nat
  | a :: t, b :: es => if a.epoch = b.epoch then skipE t es + 1 else 0
  | _, _ => 0
theorem skip_step {t es : List Ent} {a b : Nat} (ha : a < t.length) (hb : b < es.length) (h : (t.getD a default).epoch = (es.getD b default).epoch) : skipE (t.drop a) (es.drop b) = skipE (t.drop (a + 1)) (es.drop (b + 1)) + 1 := by
  rw [List.drop_eq_getElem_cons ha, List.drop_eq_getElem_cons hb, skipE, if_pos]
  rw [gd_get ha, gd_get hb] at h
  exact h
theorem skip_stop {t es : List Ent} {a b : Nat} (h : ¬ (b < es.length ∧ a < t.length ∧ (t.getD a default).epoch = (es.getD b default).epoch)) : skipE (t.drop a) (es.drop b) = 0 := by
  by_cases ha : a < t.length
  · by_cases hb : b < es.length
    · rw [List.drop_eq_getElem_cons ha, List.drop_eq_getElem_cons hb, skipE, if_neg]
      intro hh
      exact h ⟨hb, ha, by rw [gd_get ha, gd_get hb]; exact hh⟩
    · rw [List.drop_eq_nil_of_le (Nat.le_of_not_lt hb)]
      cases t.drop a <;> rfl
  · rw [List.drop_eq_nil_of_le (Nat.le_of_not_lt ha)]
    rfl
def putG (l : Lg) (p : Int) (es : List Ent) : Lg × Bool × Int :=
  if lgOk l = false then (zLog, false, 1)
  else if entsOk es 0 = false then (l, false, 1)
  else if placeL l p ≠ 0 then (l, false, placeL l p)
  else if es.length = 0 then (l, false, 5)
  else
    let k0 := (p - l.trim).toNat
    let j := skipE (l.tail.drop k0) es
    if es.length = j then (l, false, 0)
    else if (es.getD j default).epoch < befL l (l.trim + k0 + j) then (l, false, 1)
    else if 32 < k0 + j + (es.length - j) ∨ 2147483647 < l.trim + k0 + j + (es.length - j) then (l, false, 6)
    else (⟨l.base, l.trim, l.epoch, l.tail.take (k0 + j) ++ es.drop j⟩, true, 0)
theorem end_zlog3 {n : Nat} (q : Bool) (c : Int) (e : Nat → SV) (X : List Blk) (b : Nat) (t : Nat) (h6 : e 6 = .p (.one (.ptr b 0 0 0))) (h7 : e 7 = .b q) (h8 : e 8 = .i c) (hX : X[b]? = some (.rows t 6 0 [[.c (.v (.slice none 0 0)), .c (.v (.slice none 0 0)), .c (.v (.int .i64 0)), .c (.v (.int .i64 0)), .c (.v (.int .i64 0)), .c (.v (.slice none 0 0))]] true)) : FinK n 0 [.l true 6 6, .t 7, .t 8] (.tup [lgA zLog, .b q, .i c]) [] .ret ⟨e, X⟩ := by
  refine fin0 (.inr rfl) (qs := [.agg [.c (.v (.slice none 0 0)), .c (.v (.slice none 0 0)), .c (.v (.int .i64 0)), .c (.v (.int .i64 0)), .c (.v (.int .i64 0)), .c (.v (.slice none 0 0))], .b q, .i c]) (cnd := True) ?_ trivial (subS_tupL ⟨subP_aggL ⟨nil_sub (α := Lin), nil_sub (α := Dn), SubA.refl _, SubA.refl _, SubA.refl _, nil_sub (α := Ent), trivial⟩, SubP.refl _, SubP.refl _, trivial⟩) (by simp only [go_sem])
  simp only [go_sem, h6, h7, h8, hX]
set_option maxRecDepth 20000 in
theorem pPut_rc (l : Lg) (hz : zLg l) (p : Int) (es : List Ent) (hel : es.length ≤ 1000) (hes : ∀ e ∈ es, e.op.ser.size ≤ 2000) (M : List Blk) : CallR Try.prog M n_pglog_Put [lgA l, .i p, entL es] (.tup [lgA (putG l p es).1, .b (putG l p es).2.1, .i (putG l p es).2.2]) M := by
  refine callPG F_pglog_Put (Nat.le_of_ble_eq_true rfl) (by simp only [go_sem]) ?_ M
  have hown := fun (A B : Blk) (h : ∀ x ∈ [A, B], ltB 2 x) => pownB_rc l hz (M := [A, B]) h
  unfold putG
  refine run_seqV ?_
  simp only [go_sem]
  refine run_seqV ?_
  simp only [go_sem]
  refine call0 (pCheck_rc l hz) ?_
  simp only [go_sem]
  rw [ifne]
  cases hok : lgOk l with
  | false =>
    simp only [go_sem]
    exact end_zlog3 false 1 _ _ 1 _ (by simp only [go_sem]) (by simp only [go_sem]) (by simp only [go_sem]) rfl
  | true =>
    have hP := (lgOk_iff l).1 hok
    have p1 := hP.t0
    have p2 := hP.fit
    have p3 := ents_len hP.ents
    simp only [go_sem]
    refine run_seqV ?_
    simp only [go_sem]
    refine call1 (hown _ _ ?_) (by simp only [go_sem]) (fun h => Bool.noConfusion h) ?_
    · simp only [go_sem, ltB]
    simp only [go_sem, List.length_cons, List.length_nil, Nat.zero_add, Nat.reduceAdd]
    refine run_seqV ?_
    simp only [go_sem]
    refine call0 (entries28_rc es hel hes 0) ?_
    simp only [go_sem]
    refine ⟨fun hc => ?_, fun hc => ?_⟩
    · rw [if_pos (show entsOk es 0 = false by simpa using hc)]
      exact end_lgO3 l false 1 _ _ 1 _ 4 1 false (by simp only [go_sem]) (by simp only [go_sem]) (by simp only [go_sem]) (by decide) rfl rfl
    rw [if_neg (show ¬ entsOk es 0 = false by simpa using hc)]
    refine run_seqV ?_
    simp only [go_sem]
    refine callL (pplace_rc l hz hok p []) ⟨snap_lg (b := 4) (v := 1) (f := false) rfl, Snap.same _ trivial, trivial⟩ (by simp only [go_sem]) ?_
    simp only [go_sem]
    refine ⟨fun hd => ?_, fun hd => ?_⟩
    · rw [if_pos hd]
      exact end_lgO3 l false _ _ _ 1 _ 4 1 false (by simp only [go_sem]) (by simp only [go_sem]) (by simp only [go_sem]) (by decide) rfl rfl
    have hd : placeL l p = 0 := by simpa using hd
    obtain ⟨q1, q2⟩ := place_in hd
    rw [if_neg (by rw [hd]; simp)]
    refine run_seqV ?_
    simp only [go_sem]
    refine ⟨fun he => ?_, fun he => ?_⟩
    · rw [if_pos (by simpa using he)]
      exact end_lgO3 l false 5 _ _ 1 _ 4 1 false (by simp only [go_sem]) (by simp only [go_sem]) (by simp only [go_sem]) (by decide) rfl rfl
    have he : es.length ≠ 0 := by simpa using he
    rw [if_neg he]
    obtain ⟨k, hk⟩ : ∃ k : Nat, p - l.trim = k := ⟨(p - l.trim).toNat, by omega⟩
    refine run_seqV ?_
    simp only [go_sem]
    rw [w64 (n := p - l.trim) (by omega) (by omega), hk]
    simp only [Int.toNat_natCast]
    refine run_seqV ?_
    simp only [go_sem]
    refine R_loop (ι := Nat) (J := fun j => j ≤ es.length ∧ k + j ≤ l.tail.length ∧ skipE (l.tail.drop k) es = j + skipE (l.tail.drop (k + j)) (es.drop j))
      (env := fun j => [(2, .p (entL (es.drop j))), (3, .p (.one (.ptr 0 0 0 0))), (6, .p (.one (.ptr 1 0 0 0))), (10, .i ((k + j : Nat) : Int))])
      (mem := fun _ => [.rows 51 6 0 [lgO l 4 1 l.tail.length] true, .rows 51 6 0 [[.c (.v (.slice none 0 0)), .c (.v (.slice none 0 0)), .c (.v (.int .i64 0)), .c (.v (.int .i64 0)), .c (.v (.int .i64 0)), .c (.v (.slice none 0 0))]] true, .dead, .rows 51 6 0 [lgO l 4 1 l.tail.length] true, enR 1 l.tail false])
      (μ := fun j => es.length - j) 0 ⟨Nat.zero_le _, by omega, by rw [Nat.add_zero, List.drop_zero, Nat.zero_add]⟩ ⟨[], rfl, Nat.zero_le _, ?_, ?_⟩ ?_
    · simp only [go_sem, List.drop_zero, Nat.add_zero]
    · simp only [go_sem, ltB]
      exact fun r hr => (rowsL_row r hr).2 _
    rintro j ⟨hj1, hj2, hj3⟩
    have hd0 : (es.drop j).getD 0 default = es.getD j default := by rw [List.getD_eq_getElem?_getD, List.getD_eq_getElem?_getD, List.getElem?_drop, Nat.add_zero]
    have rest : ¬ (j < es.length ∧ k + j < l.tail.length ∧ (l.tail.getD (k + j) default).epoch = (es.getD j default).epoch) → skipE (l.tail.drop k) es = j := fun h => by rw [hj3, skip_stop h, Nat.add_zero]
    by_cases h1 : j < es.length ∧ k + j < l.tail.length
    · refine run_seqV ?_
      simp only [go_sem, List.length_drop]
      rw [rowsL_getD h1.2]
      simp only [go_sem]
      have ht : (decide ((0 : Int) < ((es.length - j : Nat) : Int)) && decide (((k + j : Nat) : Int) < l.tail.length)) = true := by
        rw [Bool.and_eq_true, decide_eq_true_eq, decide_eq_true_eq]; omega
      refine ⟨fun _ => by omega, fun _ => by omega, fun _ => by omega, fun _ => by omega, fun hc => ?_, fun hc => ?_⟩
      · have hc' : (l.tail.getD (k + j) default).epoch = (es.getD j default).epoch := by
          simp only [Bool.and_eq_true, beq_iff_eq] at hc
          rw [← hd0]
          exact hc.2
        have hsk := skip_step h1.2 h1.1 hc'
        refine run_block ?_
        refine V_sound ?_
        simp only [go_sem]
        refine ⟨by rw [List.length_drop]; omega, j + 1, ⟨by omega, by omega, by rw [hj3, hsk, Nat.add_assoc k j 1]; omega⟩, by omega, [], rfl, Nat.zero_le _, ?_, ?_⟩
        · have hgd : ∀ i, (es.drop (j + 1)).getD i default = (es.drop j).getD (1 + i) default := fun i => by
            rw [List.getD_eq_getElem?_getD, List.getD_eq_getElem?_getD, List.getElem?_drop, List.getElem?_drop, Nat.add_assoc]
          have hw : IntKind.i64.wrap (((k + j : Nat) : Int) + 1) = ((k + (j + 1) : Nat) : Int) := w64s (k := k + j) (by omega)
          simp only [go_sem, hgd, hw, List.length_drop]
          have : es.length - j - 1 = es.length - (j + 1) := by omega
          simp [this]
        · simp only [go_sem, ltB]
          exact fun r hr => (rowsL_row r hr).2 _
      · have hj := rest (fun h => by
          simp only [Bool.and_eq_false_iff, beq_eq_false_iff_ne, decide_eq_false_iff_not, hd0] at hc
          rcases hc with (hc | hc) | hc
          · omega
          · omega
          · exact hc h.2.2)
        rw [hj]
        exact putTail_run l hz hok k j hj2 es hel hj1 _ (by simp only [go_sem]) (by simp only [go_sem]) (by simp only [go_sem]) (by simp only [go_sem])
    · have hj := rest (fun h => h1 ⟨h.1, h.2.1⟩)
      by_cases h0 : k + j < l.tail.length
      · have hA : decide ((0 : Int) < ((es.length - j : Nat) : Int)) = false := by rw [decide_eq_false_iff_not]; omega
        refine run_seqV ?_
        simp only [go_sem, List.length_drop, hA, rowsL_getD h0]
        rw [hj]
        exact putTail_run l hz hok k j hj2 es hel hj1 _ (by simp only [go_sem]) (by simp only [go_sem]) (by simp only [go_sem]) (by simp only [go_sem])
      · have hB : decide (k + j < l.tail.length) = false := by rw [decide_eq_false_iff_not]; omega
        have hD : (rowsL 10 Ent.c l.tail).getD (k + j) [] = [] := by
          rw [List.getD_eq_getElem?_getD, List.getElem?_eq_none (by rw [rowsL_len]; omega)]; rfl
        have hE : ([] : List AV).getD 0 default = .c (.v (.tuple #[])) := rfl
        refine run_seqV ?_
        have hF : ∀ x : Int, binV .eql (.tuple #[]) (.int .i64 x) = none := fun x => rfl
        simp only [go_sem, List.length_drop, hB, hD, hE, hF]
        refine ops_end ?_
        simp only [go_sem]
        rw [hj]
        exact putTail_run l hz hok k j hj2 es hel hj1 _ (by simp only [go_sem]) (by simp only [go_sem]) (by simp only [go_sem]) (by simp only [go_sem])
end Go.Proofs.Ytcmkhlfjcdchmaa.A
end
section
namespace Go.Proofs.Ytcmkhlfjcdchmaa.A
open Go Go.Proofs Go.Proofs.YtcmkhlfjcdchmaaAbs
theorem entsOk_iffQ (l : List Ent) (ep : Int) : entsOk l ep = true ↔ l.length ≤ 32 ∧ ∀ i, i < l.length → entOk (l.getD i default) = true ∧ epAt l ep i ≤ (l.getD i default).epoch := by
  unfold entsOk
  rw [Bool.and_eq_true, decide_eq_true_eq, List.all_eq_true]
  constructor
  · rintro ⟨h1, h2⟩
    refine ⟨h1, fun i hi => ?_⟩
    have := h2 i (List.mem_range.2 hi)
    unfold enAt at this
    rwa [Bool.and_eq_true, decide_eq_true_eq] at this
  · rintro ⟨h1, h2⟩
    refine ⟨h1, fun i hi => ?_⟩
    unfold enAt
    rw [Bool.and_eq_true, decide_eq_true_eq]
    exact h2 i (List.mem_range.1 hi)
theorem entOk_epQ {e : Ent} (h : entOk e = true) : 1 ≤ e.epoch ∧ e.epoch ≤ 2147483647 := by
  simp only [entOk, Bool.and_eq_true, decide_eq_true_eq] at h
  exact ⟨h.1.1.1.1.1.1, h.1.1.1.1.1.2⟩
theorem alkN_spec (f : Int → Bool) : ∀ (n : Nat) (lo : Int), lo ≤ alkN f lo n ∧ alkN f lo n ≤ lo + n ∧ ∀ q, lo ≤ q → q < alkN f lo n → f q = false
  | 0, lo => ⟨Int.le_refl _, by simp [alkN], fun q h1 h2 => by simp only [alkN] at h2; omega⟩
  | n + 1, lo => by
    obtain ⟨h1, h2, h3⟩ := alkN_spec f n (lo + 1)
    unfold alkN
    by_cases hf : f lo = true
    · rw [if_pos hf]
      exact ⟨Int.le_refl _, by omega, fun q a b => by omega⟩
    · rw [if_neg hf]
      refine ⟨by omega, by omega, fun q a b => ?_⟩
      by_cases hq : q = lo
      · subst hq; simpa using hf
      · exact h3 q (by omega) b
theorem alkN_all (f : Int → Bool) : ∀ (n : Nat) (lo : Int), (∀ q, lo ≤ q → q < lo + n → f q = false) → alkN f lo n = lo + n
  | 0, lo, _ => by simp [alkN]
  | n + 1, lo, h => by
    unfold alkN
    rw [if_neg (by rw [h lo (Int.le_refl _) (by omega)]; simp), alkN_all f n (lo + 1) (fun q a b => h q (by omega) (by omega))]
    omega
abbrev othL (x : Lg) : Oth := ⟨x.trim, x.epoch, epsL x.tail⟩
theorem epsL_get (l : List Ent) {i : Nat} (h : i < l.length) : (epsL l).getD i default = (l.getD i default).epoch := by
  rw [List.getD_eq_getElem?_getD, List.getD_eq_getElem?_getD, epsL, List.getElem?_map, List.getElem?_eq_getElem h]
  rfl
theorem befO_L (x : Lg) {q : Int} (h1 : x.trim ≤ q) (h2 : q ≤ x.trim + x.tail.length) : befO (othL x) q = (befL x q, if q = x.trim then decide (0 < q) else true) := by
  unfold befO befL epAt
  simp only [epsL_len]
  by_cases h : q = x.trim
  · subst h
    simp
  · rw [if_neg (by omega), if_pos (by omega), if_neg (by omega), if_neg h, epsL_get _ (by omega)]
    congr 3
    omega
theorem meet_eps {a b : Lg} (ha : lgOk a = true) (hb : lgOk b = true) {p : Int} (h : alikeS b (othL a) = (p, true)) :
    a.trim ≤ p ∧ p ≤ a.trim + a.tail.length ∧ b.trim ≤ p ∧ p ≤ b.trim + b.tail.length ∧ ∀ q, a.trim ≤ q → b.trim ≤ q → q ≤ p → befL b q = befL a q := by
  have hA := (lgOk_iff a).1 ha
  have hB := (lgOk_iff b).1 hb
  have a0 := hA.t0
  have b0 := hB.t0
  unfold alikeS at h
  split at h
  · injection h with _ h; cases h
  simp only at h
  split at h
  · injection h with _ h; cases h
  rename_i h1 h2
  injection h with hp _
  simp only [loO, hiO, epsL_len] at h2 hp
  obtain ⟨lo, hlo⟩ : ∃ lo, lo = (if b.trim < a.trim then a.trim else b.trim) := ⟨_, rfl⟩
  obtain ⟨hi, hhi⟩ : ∃ hi, hi = (if a.trim + (a.tail.length : Int) < b.trim + b.tail.length then a.trim + (a.tail.length : Int) else b.trim + b.tail.length) := ⟨_, rfl⟩
  rw [← hlo, ← hhi] at h2 hp
  have hlh : lo ≤ hi := Int.not_lt.1 fun hh => h2 (.inl hh)
  obtain ⟨k1, k2, k3⟩ := alkN_spec (difO (othL b) (othL a)) (hi - lo).toNat lo
  rw [hp] at k1 k2 k3
  have l1 : a.trim ≤ lo ∧ b.trim ≤ lo ∧ (lo = a.trim ∨ lo = b.trim) := by rw [hlo]; split <;> omega
  have l2 : hi ≤ a.trim + a.tail.length ∧ hi ≤ b.trim + b.tail.length := by rw [hhi]; split <;> omega
  have hpi : p ≤ hi := by omega
  refine ⟨by omega, by omega, by omega, by omega, fun q q1 q2 q3 => ?_⟩
  have hql : lo ≤ q := by omega
  by_cases hq : q = lo
  · subst hq
    have e1 := befO_L b (q := q) (by omega) (by omega)
    have e2 := befO_L a (q := q) (by omega) (by omega)
    rw [e1, e2] at h2
    by_cases hz : 0 < q
    · have f1 : (if q = b.trim then decide (0 < q) else true) = true := by split <;> simp [hz]
      have f2 : (if q = a.trim then decide (0 < q) else true) = true := by split <;> simp [hz]
      have : ¬ (befL b q ≠ befL a q) := fun hh => h2 (.inr ⟨f1, f2, hh⟩)
      exact Classical.not_not.1 this
    · have hq0 : q = 0 := by omega
      have ta : a.trim = 0 := by omega
      have tb : b.trim = 0 := by omega
      have ea := hA.te.1 ta
      have eb := hB.te.1 tb
      unfold befL epAt
      rw [if_pos (by omega), if_pos (by omega), ea, eb]
  · have := k3 (q - 1) (by omega) (by omega)
    unfold difO at this
    rw [show q - 1 + 1 = q by omega, befO_L b (q := q) (by omega) (by omega), befO_L a (q := q) (by omega) (by omega)] at this
    simpa using this
/-- What is behind the meeting: the one's head, the other's tail. -/
def metL (a b : Lg) (p : Int) : Lg := ⟨b.base, b.trim, b.epoch, b.tail.take (p - b.trim).toNat ++ a.tail.drop (p - a.trim).toNat⟩
theorem gd_takeQ {l : List Ent} {k i : Nat} (h : i < k) : (l.take k).getD i default = l.getD i default := by
  rw [List.getD_eq_getElem?_getD, List.getD_eq_getElem?_getD, List.getElem?_take, if_pos h]
theorem gd_dropQ (l : List Ent) (k i : Nat) : (l.drop k).getD i default = l.getD (k + i) default := by
  rw [List.getD_eq_getElem?_getD, List.getD_eq_getElem?_getD, List.getElem?_drop]
theorem met_lo {a b : Lg} {p : Int} (h1 : b.trim ≤ p) (h2 : p ≤ b.trim + b.tail.length) {q : Int} (q1 : b.trim ≤ q) (q2 : q ≤ p) : befL (metL a b p) q = befL b q := by
  unfold befL epAt metL
  dsimp only
  by_cases h : (q - b.trim).toNat = 0
  · rw [if_pos h, if_pos h]
  · rw [if_neg h, if_neg h, gd_appL _ _ (by rw [List.length_take]; omega), gd_takeQ (by omega)]
theorem met_hi {a b : Lg} {p : Int} (ha1 : a.trim ≤ p) (ha2 : p ≤ a.trim + a.tail.length) (h1 : b.trim ≤ p) (h2 : p ≤ b.trim + b.tail.length) {q : Int} (q1 : p < q) : befL (metL a b p) q = befL a q := by
  unfold befL epAt metL
  dsimp only
  rw [if_neg (by omega), if_neg (by omega)]
  have hl : (b.tail.take (p - b.trim).toNat).length = (p - b.trim).toNat := by rw [List.length_take]; omega
  have e : (q - b.trim).toNat - 1 = (b.tail.take (p - b.trim).toNat).length + ((q - p).toNat - 1) := by omega
  rw [e, gd_app, gd_dropQ]
  congr 2
  omega
theorem met_ok {a b : Lg} (ha : lgOk a = true) (hb : lgOk b = true) {p : Int} (h : alikeS b (othL a) = (p, true)) (hf : (metL a b p).tail.length ≤ 32) : lgOk (metL a b p) = true ∧ (metL a b p).trim + (metL a b p).tail.length = a.trim + a.tail.length ∧ alikeS (metL a b p) (othL a) = (a.trim + a.tail.length, true) := by
  obtain ⟨ha1, ha2, hb1, hb2, heq⟩ := meet_eps ha hb h
  have hA := (lgOk_iff a).1 ha
  have hB := (lgOk_iff b).1 hb
  have a0 := hA.t0
  have b0 := hB.t0
  have af := hA.fit
  obtain ⟨ka, kA⟩ := (entsOk_iffQ _ _).1 hA.ents
  obtain ⟨kb, kB⟩ := (entsOk_iffQ _ _).1 hB.ents
  have hl : (b.tail.take (p - b.trim).toNat).length = (p - b.trim).toNat := by rw [List.length_take]; omega
  have hlen : (metL a b p).tail.length = (p - b.trim).toNat + (a.tail.length - (p - a.trim).toNat) := by
    show (b.tail.take _ ++ a.tail.drop _).length = _
    rw [List.length_append, hl, List.length_drop]
  have hend : (metL a b p).trim + (metL a b p).tail.length = a.trim + a.tail.length := by
    rw [hlen]
    show b.trim + _ = _
    omega
  have hbef : ∀ q, a.trim ≤ q → b.trim ≤ q → befL (metL a b p) q = befL a q := fun q q1 q2 => by
    by_cases hq : q ≤ p
    · rw [met_lo hb1 hb2 q2 hq]; exact heq q q1 q2 hq
    · exact met_hi ha1 ha2 hb1 hb2 (by omega)
  have hok : lgOk (metL a b p) = true := by
    rw [lgOk_iff]
    refine ⟨hB.base, hB.t0, hB.e0, hB.e1, hB.te, ?_, by rw [hend]; exact af⟩
    show entsOk (metL a b p).tail b.epoch = true
    rw [entsOk_iffQ]
    refine ⟨hf, fun i hi => ?_⟩
    have hbi : befL (metL a b p) (b.trim + i) = epAt (metL a b p).tail b.epoch i := by
      show epAt (metL a b p).tail b.epoch (b.trim + (i : Int) - b.trim).toNat = _
      congr 1
      omega
    rw [← hbi]
    by_cases hik : i < (p - b.trim).toNat
    · have hg : (metL a b p).tail.getD i default = b.tail.getD i default := by
        show (b.tail.take _ ++ a.tail.drop _).getD i default = _
        rw [gd_appL _ _ (by omega), gd_takeQ hik]
      have hbb : befL b (b.trim + i) = epAt b.tail b.epoch i := by
        show epAt b.tail b.epoch (b.trim + (i : Int) - b.trim).toNat = _
        congr 1
        omega
      rw [hg, met_lo hb1 hb2 (by omega) (by omega), hbb]
      exact kB i (by omega)
    · have hg : (metL a b p).tail.getD i default = a.tail.getD (b.trim + i - a.trim).toNat default := by
        show (b.tail.take (p - b.trim).toNat ++ a.tail.drop _).getD i default = _
        rw [show i = (b.tail.take (p - b.trim).toNat).length + (i - (p - b.trim).toNat) by omega, gd_app, gd_dropQ]
        congr 1
        omega
      rw [hg, hbef _ (by omega) (by omega)]
      exact kA _ (by omega)
  refine ⟨hok, hend, ?_⟩
  have hte : b.trim = (metL a b p).trim := rfl
  unfold alikeS
  rw [if_neg (by rw [hok]; simp only [epsL_len]; simp; omega)]
  simp only [loO, hiO, epsL_len]
  rw [hend]
  obtain ⟨lo, hlo⟩ : ∃ lo, lo = (if (metL a b p).trim < a.trim then a.trim else (metL a b p).trim) := ⟨_, rfl⟩
  rw [← hlo, show (if a.trim + (a.tail.length : Int) < a.trim + a.tail.length then a.trim + (a.tail.length : Int) else a.trim + a.tail.length) = a.trim + a.tail.length by split <;> rfl]
  have l1 : a.trim ≤ lo ∧ b.trim ≤ lo ∧ lo ≤ p := by rw [hlo, ← hte]; split <;> omega
  have hB1 := fun (q : Int) (q1 : a.trim ≤ q) (q2 : b.trim ≤ q) (q3 : q ≤ a.trim + a.tail.length) => befO_L (metL a b p) (q := q) q2 (by rw [hend]; exact q3)
  rw [if_neg]
  · congr 1
    rw [alkN_all]
    · omega
    · intro q q1 q2
      unfold difO
      rw [hB1 (q + 1) (by omega) (by omega) (by omega), befO_L a (q := q + 1) (by omega) (by omega), hbef _ (by omega) (by omega)]
      simp
  · rintro (hh | ⟨_, _, hh⟩)
    · omega
    · rw [hB1 lo (by omega) (by omega) (by omega), befO_L a (q := lo) (by omega) (by omega)] at hh
      exact hh (hbef _ (by omega) (by omega))
def cutL (b : Lg) (p : Int) : Lg := ⟨b.base, b.trim, b.epoch, b.tail.take (p - b.trim).toNat⟩
theorem cut_lo {b : Lg} {p : Int} {q : Int} (q2 : q ≤ p) : befL (cutL b p) q = befL b q := by
  unfold befL epAt cutL
  dsimp only
  by_cases h : (q - b.trim).toNat = 0
  · rw [if_pos h, if_pos h]
  · rw [if_neg h, if_neg h, gd_takeQ (by omega)]
theorem cut_okL {b : Lg} (hb : lgOk b = true) {p : Int} (h1 : b.trim ≤ p) (h2 : p ≤ b.trim + b.tail.length) : lgOk (cutL b p) = true ∧ (cutL b p).tail.length = (p - b.trim).toNat := by
  have hB := (lgOk_iff b).1 hb
  obtain ⟨kb, kB⟩ := (entsOk_iffQ _ _).1 hB.ents
  have hl : (cutL b p).tail.length = (p - b.trim).toNat := by
    show (b.tail.take _).length = _
    rw [List.length_take]; omega
  refine ⟨?_, hl⟩
  have hfit := hB.fit
  rw [lgOk_iff]
  refine ⟨hB.base, hB.t0, hB.e0, hB.e1, hB.te, ?_, by rw [hl]; show b.trim + _ ≤ _; omega⟩
  show entsOk (cutL b p).tail b.epoch = true
  rw [entsOk_iffQ, hl]
  refine ⟨by omega, fun i hi => ?_⟩
  have hg : (cutL b p).tail.getD i default = b.tail.getD i default := gd_takeQ hi
  have he : epAt (cutL b p).tail b.epoch i = epAt b.tail b.epoch i := by
    unfold epAt
    by_cases h : i = 0
    · rw [if_pos h, if_pos h]
    · rw [if_neg h, if_neg h]
      show ((b.tail.take _).getD _ default).epoch = _
      rw [gd_takeQ (by omega)]
  rw [hg, he]
  exact kB i (by omega)
theorem drop_ents {a : Lg} (ha : lgOk a = true) (k : Nat) : entsOk (a.tail.drop k) 0 = true := by
  have hA := (lgOk_iff a).1 ha
  obtain ⟨ka, kA⟩ := (entsOk_iffQ _ _).1 hA.ents
  rw [entsOk_iffQ, List.length_drop]
  refine ⟨by omega, fun i hi => ?_⟩
  have := kA (k + i) (by omega)
  rw [gd_dropQ]
  refine ⟨this.1, ?_⟩
  unfold epAt at this ⊢
  by_cases h : i = 0
  · rw [if_pos h]
    have := (entOk_epQ this.1).1
    omega
  · rw [if_neg h, gd_dropQ]
    rw [if_neg (by omega)] at this
    rw [show k + (i - 1) = k + i - 1 by omega]
    exact this.2
theorem met_bef {a b : Lg} (ha : lgOk a = true) (hb : lgOk b = true) {p : Int} (h : alikeS b (othL a) = (p, true)) (hat : a.trim ≤ p) (hne : (p - a.trim).toNat < a.tail.length) : befL (cutL b p) p ≤ ((a.tail.drop (p - a.trim).toNat).getD 0 default).epoch := by
  obtain ⟨ha1, ha2, hb1, hb2, heq⟩ := meet_eps ha hb h
  have hA := (lgOk_iff a).1 ha
  obtain ⟨ka, kA⟩ := (entsOk_iffQ _ _).1 hA.ents
  rw [cut_lo (Int.le_refl _), heq p ha1 hb1 (Int.le_refl _), gd_dropQ, Nat.add_zero]
  exact (kA _ hne).2
end Go.Proofs.Ytcmkhlfjcdchmaa.A
end
section
namespace Go.Proofs.Ytcmkhlfjcdchmaa.A
open Go Go.Proofs Go.Proofs.YtcmkhlfjcdchmaaAbs
def metTail : C :=
 (.seq (.seq (.reg false [⟨some 81, .mv (.t 10), none⟩, ⟨some 82, .bin .eql (.t 81) (ki 6), none⟩])
 (.cond (.t 82)
 (.seq (.reg false [⟨some 83, .call (kf 5) [], none⟩, ⟨some 4, .mv (.t 83), none⟩])
 .ret)
 .skip))
 (.seq (.reg true [⟨some 85, .ld true 6 (.t 9), none⟩, ⟨some 86, .fa 3 (.t 2), none⟩, ⟨some 87, .ld false 1 (.t 86), none⟩, ⟨some 88, .fa 4 (.t 2), none⟩, ⟨some 89, .ld false 1 (.t 88), none⟩, ⟨some 90, .ld true 6 (.t 2), none⟩, ⟨some 91, .call (kf 16) [(.t 90)], none⟩, ⟨some 92, .call (kf 15) [(.t 85), (.t 87), (.t 89), (.t 91)], none⟩, ⟨some 84, .mv (.t 92), none⟩, ⟨some 93, .ex (.t 84) 0, none⟩, ⟨some 94, .ex (.t 84) 1, none⟩, ⟨some 11, .mv (.t 93), none⟩, ⟨some 12, .mv (.t 94), none⟩])
 (.seq (.reg false [⟨some 95, .mv (.t 10), none⟩, ⟨some 96, .bin .eql (.t 95) (ki 0), none⟩, ⟨some 97, .mv (.t 96), none⟩, ⟨some 98, .mv (.t 12), some (97, true)⟩, ⟨some 99, .pick (.t 97) (.t 98) (kb false), none⟩, ⟨some 100, .mv (.t 99), none⟩, ⟨some 101, .mv (.t 11), some (100, true)⟩, ⟨some 102, .ld true 6 (.t 2), some (100, true)⟩, ⟨some 103, .call (kf 20) [(.t 102)], some (100, true)⟩, ⟨some 104, .bin .eql (.t 101) (.t 103), some (100, true)⟩, ⟨some 105, .pick (.t 100) (.t 104) (kb false), none⟩, ⟨some 106, .mv (.t 105), none⟩, ⟨some 107, .ld true 6 (.t 9), some (106, true)⟩, ⟨some 108, .call (kf 21) [(.t 107)], some (106, true)⟩, ⟨some 109, .mv (.t 11), some (106, true)⟩, ⟨some 110, .bin .eql (.t 108) (.t 109), some (106, true)⟩, ⟨some 111, .pick (.t 106) (.t 110) (kb false), none⟩, ⟨some 112, .mv (.t 111), none⟩, ⟨some 113, .call (kf 5) [], some (112, true)⟩, ⟨some 114, .pick (.t 112) (.t 113) (kb false), none⟩, ⟨some 4, .mv (.t 114), none⟩])
 .ret)))
set_option maxRecDepth 20000 in
theorem metTail_run (a b : Lg) (p : Int) (za : zLg a) (oa : lgOk a = true) (ob : lgOk b = true) (hal : alikeS b (othL a) = (p, true)) (c : Lg) (code : Int) (hc : code = 6 ∨ code = 0 ∧ c = metL a b p ∧ zLg c ∧ c.tail.length ≤ 32) (e : Nat → SV) (h2 : e 2 = .p (.one (.ptr 0 0 0 0))) (h9 : e 9 = .p (.one (.ptr 2 0 0 0))) (h10 : e 10 = .i code) :
    Run Try.prog 115 0 metTail ⟨e, [.rows 51 6 0 [lgCells a] true, .rows 51 6 0 [lgCells b] true, .rows 51 6 0 [lgCells c] true]⟩ (FinK 115 0 [.t 4] (.b true) []) := by
  unfold metTail
  have hB0 : ∀ (e : Nat → SV) (D : List Blk), e 4 = .b true → FinK 115 0 [.t 4] (.b true) [] .ret ⟨e, D⟩ := fun e D h => endB true e D 4 h
  refine run_seqV ?_
  simp only [go_sem, h10]
  refine ⟨fun h6 => ?_, fun h6 => ?_⟩
  · refine call0 awake28_rc ?_
    simp only [go_sem]
    exact hB0 _ _ (by simp only [go_sem])
  obtain ⟨rfl, rfl, zc, hlen⟩ := hc.resolve_left h6
  obtain ⟨okm, hend, halm⟩ := met_ok oa ob hal hlen
  have hPa := (lgOk_iff a).1 oa
  have a32 := ents_len hPa.ents
  have hEp := fun M => pEpochs_rc a za M
  unfold epochsL at hEp
  rw [oa, if_pos rfl] at hEp
  have hAl := fun M => Alike_rc (metL a b p) zc (othL a) (by show (epsL a.tail).length ≤ _; rw [epsL_len]; omega) M
  rw [halm] at hAl
  have hE := fun M => pEnd_rc (metL a b p) zc M
  unfold endL at hE
  rw [okm, if_pos rfl, hend] at hE
  have hr := fun M => rEnd28_rc a hPa.t0 (by have := hPa.fit; omega) M
  generalize metL a b p = c at hAl hE hend ⊢
  refine run_seqV ?_
  simp only [go_sem, h2, h9]
  refine call0 hEp ?_
  simp only [go_sem, h2, h9, h10]
  refine call0 hAl ?_
  simp only [go_sem]
  refine run_seqV ?_
  simp only [go_sem, h2, h9, h10]
  refine callg0 (fun _ => hr) ?_
  simp only [go_sem, h2, h9, h10]
  refine callg0 (fun _ => hE) ?_
  simp only [go_sem, h2, h9, h10]
  refine callg0 (fun _ => awake28_rc) ?_
  simp only [go_sem]
  exact run_ret (hB0 _ _ (by simp only [go_sem]))
theorem cut_met {a b : Lg} {p : Int} (h : ¬ 0 < (a.tail.drop (p - a.trim).toNat).length) : cutL b p = metL a b p := by
  have : a.tail.drop (p - a.trim).toNat = [] := List.eq_nil_of_length_eq_zero (by omega)
  unfold cutL metL
  rw [this, List.append_nil]
theorem put_met {a b : Lg} {p : Int} (oa : lgOk a = true) (ob : lgOk b = true) (hal : alikeS b (othL a) = (p, true)) (hat : a.trim ≤ p) (h : 0 < (a.tail.drop (p - a.trim).toNat).length) :
    (putG (cutL b p) p (a.tail.drop (p - a.trim).toNat)).2.2 = 6 ∨ (putG (cutL b p) p (a.tail.drop (p - a.trim).toNat)).2.2 = 0 ∧ (putG (cutL b p) p (a.tail.drop (p - a.trim).toNat)).1 = metL a b p ∧ (metL a b p).tail.length ≤ 32 := by
  obtain ⟨ha1, ha2, hb1, hb2, heq⟩ := meet_eps oa ob hal
  obtain ⟨okc, lenc⟩ := cut_okL ob hb1 hb2
  have hPa := (lgOk_iff a).1 oa
  have af := hPa.fit
  have hl := h
  rw [List.length_drop] at hl
  have hpl : placeL (cutL b p) p = 0 := by
    unfold placeL
    rw [if_neg (show ¬ p < (cutL b p).trim by show ¬ p < b.trim; omega), if_neg (by rw [lenc]; show ¬ b.trim + _ < p; omega)]
  have hnil : (cutL b p).tail.drop (p - (cutL b p).trim).toNat = [] := List.drop_eq_nil_of_le (by rw [lenc]; exact Nat.le_refl _)
  have hsk : skipE [] (a.tail.drop (p - a.trim).toNat) = 0 := by cases a.tail.drop (p - a.trim).toNat <;> rfl
  have hbef := met_bef oa ob hal hat (by omega)
  unfold putG
  rw [if_neg (by rw [okc]; simp), if_neg (by rw [drop_ents oa]; simp), if_neg (by rw [hpl]; simp), if_neg (by omega)]
  dsimp only
  rw [hnil, hsk, if_neg (by omega), if_neg (by
    rw [show (cutL b p).trim + (((p - (cutL b p).trim).toNat : Nat) : Int) + ((0 : Nat) : Int) = p by show b.trim + (((p - b.trim).toNat : Nat) : Int) + ((0 : Nat) : Int) = p; omega]
    omega)]
  split
  · exact .inl rfl
  · rename_i hf
    right
    have hm : (⟨(cutL b p).base, (cutL b p).trim, (cutL b p).epoch, (cutL b p).tail.take ((p - (cutL b p).trim).toNat + 0) ++ (a.tail.drop (p - a.trim).toNat).drop 0⟩ : Lg) = metL a b p := by
      unfold metL
      rw [List.drop_zero, Nat.add_zero, List.take_of_length_le (by rw [lenc]; exact Nat.le_refl _)]
      rfl
    refine ⟨rfl, hm, ?_⟩
    rw [← hm]
    simp only [not_or, Nat.not_lt] at hf
    rw [List.length_append, List.length_take, List.drop_zero]
    omega
set_option maxRecDepth 20000 in
set_option maxHeartbeats 8000000 in
theorem PglogMeets_rc (a b : Lg) (hla : a.tail.length ≤ 140737488355328) (hba : a.base.lines.length ≤ 140737488355328) (hlb : b.tail.length ≤ 140737488355328) (hbb : b.base.lines.length ≤ 140737488355328) (M : List Blk) : CallR Try.prog M n_windroselaw28_PglogMeets [lgA a, lgA b] (.b true) M := by
  refine callPG F_windroselaw28_PglogMeets (Nat.le_of_ble_eq_true rfl) (by simp only [go_sem]) ?_ M
  have hB0 : ∀ (e : Nat → SV) (D : List Blk), e 4 = .b true → FinK 115 0 [.t 4] (.b true) [] .ret ⟨e, D⟩ := fun e D h => endB true e D 4 h
  refine run_seqV ?_
  simp only [go_sem]
  have hLa := fun M => light28_rc a hla hba M
  have hLb := fun M => light28_rc b hlb hbb M
  have awk : ∀ (K : St → Prop) (e : Nat → SV) (X : List Blk), True := fun _ _ _ => trivial
  have zA : light28B a = true → zLg a := fun h => (light28_z h).1.z
  have zB : light28B b = true → zLg b := fun h => (light28_z h).1.z
  refine run_seqV ?_
  simp only [go_sem]
  refine call0 hLa ?_
  simp only [go_sem]
  refine callg0 (fun _ => hLb) ?_
  simp only [go_sem]
  refine callg0 (fun h => rMay28_rc a (zA (by simp at h; grind))) ?_
  simp only [go_sem]
  refine callg0 (fun h => rMay28_rc b (zB (by simp at h; grind))) ?_
  simp only [go_sem]
  refine ⟨fun hc => ?_, fun hc => ?_⟩
  · refine call0 awake28_rc ?_
    simp only [go_sem]
    exact hB0 _ _ (by simp only [go_sem])
  have hc' : light28B a = true ∧ light28B b = true ∧ lgOk a = true ∧ lgOk b = true := by
    simp at hc
    grind
  obtain ⟨la, lb, oa, ob⟩ := hc'
  have za := zA la
  have zb := zB lb
  clear hc
  have hPa := (lgOk_iff a).1 oa
  have hPb := (lgOk_iff b).1 ob
  have a32 := ents_len hPa.ents
  have a0 := hPa.t0
  have af := hPa.fit
  have hEp := fun M => pEpochs_rc a za M
  unfold epochsL at hEp
  rw [oa, if_pos rfl] at hEp
  have hAl := fun M => Alike_rc b zb (othL a) (by show (epsL a.tail).length ≤ _; rw [epsL_len]; omega) M
  generalize hal : alikeS b (othL a) = W at hAl
  obtain ⟨p, ok⟩ := W
  simp only at hAl
  refine run_seqV ?_
  simp only [go_sem]
  refine call0 hEp ?_
  simp only [go_sem]
  refine call0 hAl ?_
  simp only [go_sem]
  refine run_seqV ?_
  simp only [go_sem]
  refine ⟨fun hc => ?_, fun hc => ?_⟩
  · refine call0 awake28_rc ?_
    simp only [go_sem]
    exact hB0 _ _ (by simp only [go_sem])
  have hc' : ok = true ∧ a.trim ≤ p := by
    simp only [Bool.or_eq_false_iff, Bool.not_eq_false', decide_eq_false_iff_not] at hc
    exact ⟨hc.1, by omega⟩
  obtain ⟨rfl, hat⟩ := hc'
  obtain ⟨ha1, ha2, hb1, hb2, heq⟩ := meet_eps oa ob hal
  have hpa : placeL a p = 0 := by unfold placeL; rw [if_neg (by omega), if_neg (by omega)]
  have hpb : placeL b p = 0 := by unfold placeL; rw [if_neg (by omega), if_neg (by omega)]
  have hF := fun M => pFrom_rc a za p 32 M
  have eF : fromS a p 32 = (a.tail.drop (p - a.trim).toNat, 0) := by
    unfold fromS
    rw [if_neg (by rw [oa]; simp), if_neg (by rw [hpa]; simp)]
    congr 1
    exact List.take_of_length_le (by rw [List.length_drop]; show _ ≤ 32; omega)
  rw [eF] at hF
  have hCut := fun M => pCut_rc b zb p M
  have eC : cutG b p = (cutL b p, 0) := by
    unfold cutG
    rw [if_neg (by rw [ob]; simp), if_neg (by rw [hpb]; simp)]
    rfl
  rw [eC] at hCut
  obtain ⟨okc, lenc⟩ := cut_okL ob hb1 hb2
  have zc : zLg (cutL b p) := ⟨zb.base, by have := zb.len; omega, fun e he => zb.ser e (List.mem_of_mem_take he)⟩
  refine run_seqV ?_
  simp only [go_sem]
  refine call0 hF ?_
  simp only [go_sem]
  refine run_seqV ?_
  simp only [go_sem]
  refine run_seqV ?_
  simp only [go_sem]
  refine call0 hCut ?_
  simp only [go_sem]
  have hes : ∀ e ∈ a.tail.drop (p - a.trim).toNat, e.op.ser.size ≤ 2000 := fun e he => za.ser e (List.mem_of_mem_drop he)
  have hel : (a.tail.drop (p - a.trim).toNat).length ≤ 1000 := by rw [List.length_drop]; omega
  refine run_seqV ?_
  simp only [go_sem]
  refine ⟨fun h => ?_, fun h => ?_⟩
  · have hm := put_met oa ob hal hat (by omega)
    refine call0 (pPut_rc (cutL b p) zc p _ hel hes) ?_
    generalize putG (cutL b p) p (a.tail.drop (p - a.trim).toNat) = W at hm ⊢
    obtain ⟨c, q, code⟩ := W
    simp only at hm
    simp only [go_sem]
    refine metTail_run a b p za oa ob hal c code ?_ _ (by simp only [go_sem]) (by simp only [go_sem]) (by simp only [go_sem])
    rcases hm with hm | ⟨h0, rfl, hlen⟩
    · exact .inl hm
    · refine .inr ⟨h0, rfl, ⟨zb.base, by omega, fun e he => ?_⟩, hlen⟩
      rcases List.mem_append.1 he with he | he
      · exact zb.ser e (List.mem_of_mem_take he)
      · exact hes e he
  · refine metTail_run a b p za oa ob hal (cutL b p) 0 (.inr ⟨rfl, cut_met (by omega), zc, ents_len ((lgOk_iff _).1 okc).ents⟩) _ (by simp only [go_sem]) (by simp only [go_sem]) (by simp only [go_sem])
end Go.Proofs.Ytcmkhlfjcdchmaa.A
end
