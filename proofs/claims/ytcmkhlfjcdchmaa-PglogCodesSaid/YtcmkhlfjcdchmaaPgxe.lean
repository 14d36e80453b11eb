/- Part 5 of the texts on which the row stands: CdPg, PgA, PgB, PgC, PgD, PgE, PgF, PgG, PgH, PgI, PgJ. Conditions: none. -/
import Derived.Test.YtcmkhlfjcdchmaaPgxd
import Derived.Test.YtcmkhlfjcdchmaaProg
set_option linter.unusedVariables false
set_option linter.unusedSimpArgs false
section
set_option maxRecDepth 100000
namespace Go.Proofs.Ytcmkhlfjcdchmaa.A
open Go Go.Proofs.YtcmkhlfjcdchmaaAbs

/-- windrose/windroselaw28.awake -/
def c_windroselaw28_awake : C :=
 (.seq (.reg false [⟨some 0, .mv (kb false), none⟩])
 (.seq (.reg false [⟨some 8, .bld [.slice none 0 0, .slice none 0 0, .int .i64 0, .int .i64 0, .int .i64 0, .slice none 0 0] [], none⟩, ⟨some 9, .call (kf 23) [(ki 1), (ki 1)], none⟩, ⟨some 10, .call (kf 22) [(.t 8), (.t 9)], none⟩, ⟨some 7, .mv (.t 10), none⟩, ⟨some 11, .ex (.t 7) 0, none⟩, ⟨some 12, .ex (.t 7) 1, none⟩, ⟨some 1, .alloc 51 6 [.slice none 0 0, .slice none 0 0, .int .i64 0, .int .i64 0, .int .i64 0, .slice none 0 0], none⟩, ⟨none, .st 6 (.t 1) (.t 11), none⟩, ⟨some 2, .mv (.t 12), none⟩])
 (.seq (.reg true [⟨some 14, .ld true 6 (.t 1), none⟩, ⟨some 15, .call (kf 23) [(ki 1), (ki 2)], none⟩, ⟨some 16, .call (kf 22) [(.t 14), (.t 15)], none⟩, ⟨some 13, .mv (.t 16), none⟩, ⟨some 17, .ex (.t 13) 0, none⟩, ⟨some 18, .ex (.t 13) 1, none⟩, ⟨none, .st 6 (.t 1) (.t 17), none⟩, ⟨some 3, .mv (.t 18), none⟩])
 (.seq (.reg true [⟨some 20, .ld true 6 (.t 1), none⟩, ⟨some 21, .call (kf 23) [(ki 2), (ki 3)], none⟩, ⟨some 22, .call (kf 22) [(.t 20), (.t 21)], none⟩, ⟨some 19, .mv (.t 22), none⟩, ⟨some 23, .ex (.t 19) 0, none⟩, ⟨some 24, .ex (.t 19) 1, none⟩, ⟨none, .st 6 (.t 1) (.t 23), none⟩, ⟨some 4, .mv (.t 24), none⟩])
 (.seq (.reg false [⟨some 26, .ld true 6 (.t 1), none⟩, ⟨some 27, .bsl 3 1 2 [.int .i64 0] [(0, (ki 1)), (1, (ki 3))], none⟩, ⟨some 28, .call (kf 15) [(.t 26), (ki 0), (ki 0), (.t 27)], none⟩, ⟨some 25, .mv (.t 28), none⟩, ⟨some 29, .ex (.t 25) 0, none⟩, ⟨some 30, .ex (.t 25) 1, none⟩, ⟨some 5, .mv (.t 29), none⟩, ⟨some 6, .mv (.t 30), none⟩])
 (.seq (.reg false [⟨some 31, .mv (.t 2), none⟩, ⟨some 32, .bin .eql (.t 31) (ki 0), none⟩, ⟨some 33, .mv (.t 32), none⟩, ⟨some 34, .mv (.t 3), some (33, true)⟩, ⟨some 35, .bin .eql (.t 34) (ki 0), some (33, true)⟩, ⟨some 36, .pick (.t 33) (.t 35) (kb false), none⟩, ⟨some 37, .mv (.t 36), none⟩, ⟨some 38, .mv (.t 4), some (37, true)⟩, ⟨some 39, .bin .eql (.t 38) (ki 0), some (37, true)⟩, ⟨some 40, .pick (.t 37) (.t 39) (kb false), none⟩, ⟨some 41, .mv (.t 40), none⟩, ⟨some 42, .mv (.t 5), some (41, true)⟩, ⟨some 43, .bin .eql (.t 42) (ki 1), some (41, true)⟩, ⟨some 44, .pick (.t 41) (.t 43) (kb false), none⟩, ⟨some 45, .mv (.t 44), none⟩, ⟨some 46, .mv (.t 6), some (45, true)⟩, ⟨some 47, .pick (.t 45) (.t 46) (kb false), none⟩, ⟨some 48, .mv (.t 47), none⟩, ⟨some 49, .ld true 6 (.t 1), some (48, true)⟩, ⟨some 50, .call (kf 21) [(.t 49)], some (48, true)⟩, ⟨some 51, .bin .eql (.t 50) (ki 3), some (48, true)⟩, ⟨some 52, .pick (.t 48) (.t 51) (kb false), none⟩, ⟨some 53, .mv (.t 52), none⟩, ⟨some 54, .ld true 6 (.t 1), some (53, true)⟩, ⟨some 55, .call (kf 24) [(.t 54)], some (53, true)⟩, ⟨some 56, .bin .eql (.t 55) (ki 2), some (53, true)⟩, ⟨some 57, .pick (.t 53) (.t 56) (kb false), none⟩, ⟨some 0, .mv (.t 57), none⟩])
 .ret))))))
abbrev n_windroselaw28_awake : Nat := 5
theorem F_windroselaw28_awake : Fun Try.prog n_windroselaw28_awake 58 c_windroselaw28_awake [.t 0] := ⟨⟨Try.f5, _, Try.func5, by kernel_rfl, rfl, rfl, by kernel_rfl, by kernel_rfl⟩⟩
/-- windrose/pglog.Check -/
def c_pglog_Check : C :=
 (.seq (.reg false [⟨some 1, .box 51 6 (.t 0), none⟩, ⟨some 2, .mv (ki 0), none⟩])
 (.seq (.seq (.reg false [⟨some 3, .fa 0 (.t 1), none⟩, ⟨some 4, .ld true 3 (.t 3), none⟩, ⟨some 5, .call (kf 50) [(.t 4)], none⟩, ⟨some 6, .bin .neq (.t 5) (ki 0), none⟩, ⟨some 7, .mv (.t 6), none⟩, ⟨some 8, .fa 3 (.t 1), some (7, false)⟩, ⟨some 9, .ld false 1 (.t 8), some (7, false)⟩, ⟨some 10, .call (kf 26) [(.t 9), (ki 0), (ki 2147483647)], some (7, false)⟩, ⟨some 11, .un .not (.t 10), some (7, false)⟩, ⟨some 12, .pick (.t 7) (kb true) (.t 11), none⟩, ⟨some 13, .mv (.t 12), none⟩, ⟨some 14, .fa 4 (.t 1), some (13, false)⟩, ⟨some 15, .ld false 1 (.t 14), some (13, false)⟩, ⟨some 16, .call (kf 26) [(.t 15), (ki 0), (ki 2147483647)], some (13, false)⟩, ⟨some 17, .un .not (.t 16), some (13, false)⟩, ⟨some 18, .pick (.t 13) (kb true) (.t 17), none⟩, ⟨some 19, .mv (.t 18), none⟩, ⟨some 20, .fa 3 (.t 1), some (19, false)⟩, ⟨some 21, .ld false 1 (.t 20), some (19, false)⟩, ⟨some 22, .bin .eql (.t 21) (ki 0), some (19, false)⟩, ⟨some 23, .fa 4 (.t 1), some (19, false)⟩, ⟨some 24, .ld false 1 (.t 23), some (19, false)⟩, ⟨some 25, .bin .eql (.t 24) (ki 0), some (19, false)⟩, ⟨some 26, .eqb true (.t 22) (.t 25), some (19, false)⟩, ⟨some 27, .pick (.t 19) (kb true) (.t 26), none⟩])
 (.cond (.t 27)
 (.seq (.reg false [⟨some 2, .mv (ki 1), none⟩])
 .ret)
 .skip))
 (.seq (.seq (.reg false [⟨some 28, .fa 5 (.t 1), none⟩, ⟨some 29, .ld false 1 (.t 28), none⟩, ⟨some 30, .fa 4 (.t 1), none⟩, ⟨some 31, .ld false 1 (.t 30), none⟩, ⟨some 32, .call (kf 40) [(.t 29), (.t 31)], none⟩, ⟨some 33, .un .not (.t 32), none⟩, ⟨some 34, .mv (.t 33), none⟩, ⟨some 35, .fa 3 (.t 1), some (34, false)⟩, ⟨some 36, .ld false 1 (.t 35), some (34, false)⟩, ⟨some 37, .fa 5 (.t 1), some (34, false)⟩, ⟨some 38, .ld false 1 (.t 37), some (34, false)⟩, ⟨some 39, .len (.t 38), some (34, false)⟩, ⟨some 40, .bin .sub (ki 2147483647) (.t 39), some (34, false)⟩, ⟨some 41, .bin .gtr (.t 36) (.t 40), some (34, false)⟩, ⟨some 42, .pick (.t 34) (kb true) (.t 41), none⟩])
 (.cond (.t 42)
 (.seq (.reg false [⟨some 2, .mv (ki 1), none⟩])
 .ret)
 .skip))
 (.seq (.reg false [⟨some 2, .mv (ki 0), none⟩])
 .ret))))
abbrev n_pglog_Check : Nat := 35
theorem F_pglog_Check : Fun Try.prog n_pglog_Check 43 c_pglog_Check [.t 2] := ⟨⟨Try.f35, _, Try.func35, by kernel_rfl, rfl, rfl, by kernel_rfl, by kernel_rfl⟩⟩
/-- windrose/pglog.End -/
def c_pglog_End : C :=
 (.seq (.reg false [⟨some 1, .box 51 6 (.t 0), none⟩, ⟨some 2, .mv (ki 0), none⟩])
 (.seq (.seq (.reg false [⟨some 3, .ld true 6 (.t 1), none⟩, ⟨some 4, .call (kf 35) [(.t 3)], none⟩, ⟨some 5, .bin .neq (.t 4) (ki 0), none⟩])
 (.cond (.t 5)
 (.seq (.reg false [⟨some 2, .mv (ki 0), none⟩])
 .ret)
 .skip))
 (.seq (.reg false [⟨some 6, .fa 3 (.t 1), none⟩, ⟨some 7, .ld false 1 (.t 6), none⟩, ⟨some 8, .fa 5 (.t 1), none⟩, ⟨some 9, .ld false 1 (.t 8), none⟩, ⟨some 10, .len (.t 9), none⟩, ⟨some 11, .bin .add (.t 7) (.t 10), none⟩, ⟨some 2, .mv (.t 11), none⟩])
 .ret)))
abbrev n_pglog_End : Nat := 21
theorem F_pglog_End : Fun Try.prog n_pglog_End 12 c_pglog_End [.t 2] := ⟨⟨Try.f21, _, Try.func21, by kernel_rfl, rfl, rfl, by kernel_rfl, by kernel_rfl⟩⟩
/-- windrose/pglog.Last -/
def c_pglog_Last : C :=
 (.seq (.reg false [⟨some 1, .box 51 6 (.t 0), none⟩, ⟨some 2, .mv (ki 0), none⟩])
 (.seq (.seq (.reg false [⟨some 3, .ld true 6 (.t 1), none⟩, ⟨some 4, .call (kf 35) [(.t 3)], none⟩, ⟨some 5, .bin .neq (.t 4) (ki 0), none⟩])
 (.cond (.t 5)
 (.seq (.reg false [⟨some 2, .mv (ki 0), none⟩])
 .ret)
 .skip))
 (.seq (.reg true [⟨some 6, .ld true 6 (.t 1), none⟩, ⟨some 7, .ld true 6 (.t 1), none⟩, ⟨some 8, .call (kf 21) [(.t 7)], none⟩, ⟨some 9, .call (kf 41) [(.t 6), (.t 8)], none⟩, ⟨some 2, .mv (.t 9), none⟩])
 .ret)))
abbrev n_pglog_Last : Nat := 24
theorem F_pglog_Last : Fun Try.prog n_pglog_Last 10 c_pglog_Last [.t 2] := ⟨⟨Try.f24, _, Try.func24, by kernel_rfl, rfl, rfl, by kernel_rfl, by kernel_rfl⟩⟩
/-- windrose/pglog.Epochs -/
def c_pglog_Epochs : C :=
 (.seq (.reg false [⟨some 1, .box 51 6 (.t 0), none⟩, ⟨some 2, .mv (.k (.one (.c (.v (.slice none 0 0))))), none⟩])
 (.seq (.reg false [⟨some 3, .mv (.k (.one (.c (.v (.slice none 0 0))))), none⟩])
 (.seq (.seq (.reg false [⟨some 6, .ld true 6 (.t 1), none⟩, ⟨some 7, .call (kf 35) [(.t 6)], none⟩, ⟨some 8, .bin .neq (.t 7) (ki 0), none⟩])
 (.cond (.t 8)
 (.seq (.reg false [⟨some 2, .mv (.k (.one (.c (.v (.slice none 0 0))))), none⟩])
 .ret)
 .skip))
 (.seq (.seq (.reg false [⟨some 9, .fa 5 (.t 1), none⟩, ⟨some 10, .ld false 1 (.t 9), none⟩, ⟨some 11, .len (.t 10), none⟩, ⟨some 12, .mv (ki 0), none⟩])
 (.block 0 (.loop (.seq (.reg false [⟨some 13, .bin .lss (.t 12) (.t 11), none⟩])
 (.seq (.cond (.t 13)
 .skip
 (.exit 0))
 (.seq (.block 1 (.seq (.reg false [⟨some 14, .ia 10 (.t 10) (.t 12), none⟩, ⟨some 15, .ld true 10 (.t 14), none⟩, ⟨some 5, .alloc 27 10 [.int .i64 0, .int .i64 0, .int .i64 0, .int .i64 0, .string ⟨#[]⟩, .int .i64 0, .int .i64 0, .int .i64 0, .int .i64 0, .int .i64 0], none⟩, ⟨none, .st 10 (.t 5) (.t 15), none⟩])
 (.reg false [⟨some 16, .mv (.t 3), none⟩, ⟨some 17, .fa 0 (.t 5), none⟩, ⟨some 18, .ld false 1 (.t 17), none⟩, ⟨some 19, .bsl 3 1 1 [.int .i64 0] [(0, (.t 18))], none⟩, ⟨some 20, .app 3 1 8 [.int .i64 0] (.t 16) (.t 19), none⟩, ⟨some 3, .mv (.t 20), none⟩])))
 (.reg false [⟨some 21, .bin .add (.t 12) (ki 1), none⟩, ⟨some 12, .mv (.t 21), none⟩])))))))
 (.seq (.reg false [⟨some 22, .mv (.t 3), none⟩, ⟨some 2, .mv (.t 22), none⟩])
 .ret)))))
abbrev n_pglog_Epochs : Nat := 16
theorem F_pglog_Epochs : Fun Try.prog n_pglog_Epochs 23 c_pglog_Epochs [.t 2] := ⟨⟨Try.f16, _, Try.func16, by kernel_rfl, rfl, rfl, by kernel_rfl, by kernel_rfl⟩⟩
/-- windrose/windroseref02.Ints -/
def c_windroseref02_Ints : C :=
 (.seq (.reg false [⟨some 4, .mv (kb false), none⟩])
 (.seq (.seq (.reg false [⟨some 6, .mv (.t 0), none⟩, ⟨some 7, .len (.t 6), none⟩, ⟨some 8, .mv (.t 1), none⟩, ⟨some 9, .len (.t 8), none⟩, ⟨some 10, .bin .neq (.t 7) (.t 9), none⟩])
 (.cond (.t 10)
 (.seq (.reg false [⟨some 4, .mv (kb false), none⟩])
 .ret)
 .skip))
 (.seq (.seq (.reg false [⟨some 5, .mv (ki 0), none⟩])
 (.block 0 (.loop (.seq (.seq (.reg false [⟨some 11, .mv (.t 5), none⟩, ⟨some 12, .mv (.t 0), none⟩, ⟨some 13, .len (.t 12), none⟩, ⟨some 14, .bin .lss (.t 11) (.t 13), none⟩])
 (.cond (.t 14)
 .skip
 (.exit 0)))
 (.seq (.block 1 (.seq (.reg true [⟨some 17, .mv (.t 0), none⟩, ⟨some 18, .mv (.t 5), none⟩, ⟨some 19, .ia 1 (.t 17) (.t 18), none⟩, ⟨some 20, .ld false 1 (.t 19), none⟩, ⟨some 21, .mv (.t 1), none⟩, ⟨some 22, .mv (.t 5), none⟩, ⟨some 23, .ia 1 (.t 21) (.t 22), none⟩, ⟨some 24, .ld false 1 (.t 23), none⟩, ⟨some 25, .bin .neq (.t 20) (.t 24), none⟩])
 (.cond (.t 25)
 (.seq (.reg false [⟨some 4, .mv (kb false), none⟩])
 .ret)
 .skip)))
 (.reg false [⟨some 15, .mv (.t 5), none⟩, ⟨some 16, .bin .add (.t 15) (ki 1), none⟩, ⟨some 5, .mv (.t 16), none⟩]))))))
 (.seq (.reg false [⟨some 4, .mv (kb true), none⟩])
 .ret))))
abbrev n_windroseref02_Ints : Nat := 30
theorem F_windroseref02_Ints : Fun Try.prog n_windroseref02_Ints 26 c_windroseref02_Ints [.t 4] := ⟨⟨Try.f30, _, Try.func30, by kernel_rfl, rfl, rfl, by kernel_rfl, by kernel_rfl⟩⟩
/-- windrose/pglog.Add -/
def c_pglog_Add : C :=
 (.seq (.reg false [⟨some 2, .box 51 6 (.t 0), none⟩, ⟨some 3, .box 27 10 (.t 1), none⟩, ⟨some 4, .alloc 51 6 [.slice none 0 0, .slice none 0 0, .int .i64 0, .int .i64 0, .int .i64 0, .slice none 0 0], none⟩, ⟨some 5, .mv (ki 0), none⟩])
 (.seq (.seq (.reg false [⟨some 6, .ld true 6 (.t 2), none⟩, ⟨some 7, .call (kf 35) [(.t 6)], none⟩, ⟨some 8, .bin .neq (.t 7) (ki 0), none⟩])
 (.cond (.t 8)
 (.seq (.reg false [⟨some 9, .bld [.slice none 0 0, .slice none 0 0, .int .i64 0, .int .i64 0, .int .i64 0, .slice none 0 0] [], none⟩, ⟨none, .st 6 (.t 4) (.t 9), none⟩, ⟨some 5, .mv (ki 1), none⟩])
 .ret)
 .skip))
 (.seq (.reg false [⟨some 10, .ld true 6 (.t 2), none⟩, ⟨some 11, .call (kf 39) [(.t 10)], none⟩, ⟨none, .st 6 (.t 2) (.t 11), none⟩])
 (.seq (.block 0 (.seq (.reg true [⟨some 13, .ld true 10 (.t 3), none⟩, ⟨some 14, .call (kf 9) [(.t 13)], none⟩, ⟨some 15, .bin .neq (.t 14) (ki 0), none⟩, ⟨some 16, .mv (.t 15), none⟩, ⟨some 17, .fa 0 (.t 3), some (16, false)⟩, ⟨some 18, .ld false 1 (.t 17), some (16, false)⟩, ⟨some 19, .ld true 6 (.t 2), some (16, false)⟩, ⟨some 20, .call (kf 24) [(.t 19)], some (16, false)⟩, ⟨some 21, .bin .lss (.t 18) (.t 20), some (16, false)⟩, ⟨some 22, .pick (.t 16) (kb true) (.t 21), none⟩, ⟨some 12, .mv (.t 22), none⟩])
 (.cond (.t 12)
 (.seq (.reg false [⟨some 23, .ld true 6 (.t 2), none⟩, ⟨none, .st 6 (.t 4) (.t 23), none⟩, ⟨some 5, .mv (ki 1), none⟩])
 .ret)
 (.seq (.reg false [⟨some 25, .fa 5 (.t 2), none⟩, ⟨some 26, .ld false 1 (.t 25), none⟩, ⟨some 27, .len (.t 26), none⟩, ⟨some 28, .bin .eql (.t 27) (ki 32), none⟩, ⟨some 29, .mv (.t 28), none⟩, ⟨some 30, .ld true 6 (.t 2), some (29, false)⟩, ⟨some 31, .call (kf 21) [(.t 30)], some (29, false)⟩, ⟨some 32, .bin .eql (.t 31) (ki 2147483647), some (29, false)⟩, ⟨some 33, .pick (.t 29) (kb true) (.t 32), none⟩, ⟨some 24, .mv (.t 33), none⟩])
 (.cond (.t 24)
 (.seq (.reg false [⟨some 34, .ld true 6 (.t 2), none⟩, ⟨none, .st 6 (.t 4) (.t 34), none⟩, ⟨some 5, .mv (ki 6), none⟩])
 .ret)
 .skip)))))
 (.seq (.reg false [⟨some 35, .fa 5 (.t 2), none⟩, ⟨some 36, .ld false 1 (.t 35), none⟩, ⟨some 37, .ld true 10 (.t 3), none⟩, ⟨some 38, .bsl 27 10 1 [.int .i64 0, .int .i64 0, .int .i64 0, .int .i64 0, .string ⟨#[]⟩, .int .i64 0, .int .i64 0, .int .i64 0, .int .i64 0, .int .i64 0] [(0, (.t 37))], none⟩, ⟨some 39, .app 27 10 88 [.int .i64 0, .int .i64 0, .int .i64 0, .int .i64 0, .string ⟨#[]⟩, .int .i64 0, .int .i64 0, .int .i64 0, .int .i64 0, .int .i64 0] (.t 36) (.t 38), none⟩, ⟨some 40, .fa 5 (.t 2), none⟩, ⟨none, .st 1 (.t 40) (.t 39), none⟩])
 (.seq (.reg false [⟨some 41, .ld true 6 (.t 2), none⟩, ⟨none, .st 6 (.t 4) (.t 41), none⟩, ⟨some 5, .mv (ki 0), none⟩])
 .ret))))))
abbrev n_pglog_Add : Nat := 22
theorem F_pglog_Add : Fun Try.prog n_pglog_Add 42 c_pglog_Add [.l true 6 4, .t 5] := ⟨⟨Try.f22, _, Try.func22, by kernel_rfl, rfl, rfl, by kernel_rfl, by kernel_rfl⟩⟩
/-- windrose/windroselaw28.entry -/
def c_windroselaw28_entry : C :=
 (.seq (.reg false [⟨some 4, .alloc 27 10 [.int .i64 0, .int .i64 0, .int .i64 0, .int .i64 0, .string ⟨#[]⟩, .int .i64 0, .int .i64 0, .int .i64 0, .int .i64 0, .int .i64 0], none⟩])
 (.seq (.reg false [⟨some 5, .mv (.t 0), none⟩, ⟨some 6, .mv (.t 1), none⟩, ⟨some 7, .mv (.t 1), none⟩, ⟨some 8, .bld [.int .i64 0, .int .i64 0] [(0, 1, (.t 7)), (1, 1, (ki 1))], none⟩, ⟨some 9, .bld [.int .i64 0, .string ⟨#[]⟩, .int .i64 0, .int .i64 0, .int .i64 0, .int .i64 0, .int .i64 0] [(0, 1, (ki 1)), (1, 1, (.k (.one (.c (.v (.string ⟨#[97]⟩)))))), (2, 2, (.t 8))], none⟩, ⟨some 10, .bld [.int .i64 0, .int .i64 0, .int .i64 0, .int .i64 0, .string ⟨#[]⟩, .int .i64 0, .int .i64 0, .int .i64 0, .int .i64 0, .int .i64 0] [(0, 1, (.t 5)), (1, 1, (ki 1)), (2, 1, (.t 6)), (3, 7, (.t 9))], none⟩, ⟨none, .st 10 (.t 4) (.t 10), none⟩])
 .ret))
abbrev n_windroselaw28_entry : Nat := 23
theorem F_windroselaw28_entry : Fun Try.prog n_windroselaw28_entry 11 c_windroselaw28_entry [.l true 10 4] := ⟨⟨Try.f23, _, Try.func23, by kernel_rfl, rfl, rfl, by kernel_rfl, by kernel_rfl⟩⟩
/-- windrose/pglog.Alike -/
def c_pglog_Alike : C :=
 (.seq (.reg false [⟨some 4, .box 51 6 (.t 0), none⟩, ⟨some 8, .mv (ki 0), none⟩, ⟨some 9, .mv (kb false), none⟩])
 (.seq (.seq (.reg false [⟨some 23, .ld true 6 (.t 4), none⟩, ⟨some 24, .call (kf 35) [(.t 23)], none⟩, ⟨some 25, .bin .neq (.t 24) (ki 0), none⟩, ⟨some 26, .mv (.t 25), none⟩, ⟨some 27, .mv (.t 1), some (26, false)⟩, ⟨some 28, .call (kf 26) [(.t 27), (ki 0), (ki 2147483647)], some (26, false)⟩, ⟨some 29, .un .not (.t 28), some (26, false)⟩, ⟨some 30, .pick (.t 26) (kb true) (.t 29), none⟩, ⟨some 31, .mv (.t 30), none⟩, ⟨some 32, .mv (.t 3), some (31, false)⟩, ⟨some 33, .len (.t 32), some (31, false)⟩, ⟨some 34, .bin .gtr (.t 33) (ki 32), some (31, false)⟩, ⟨some 35, .pick (.t 31) (kb true) (.t 34), none⟩])
 (.cond (.t 35)
 (.seq (.reg false [⟨some 8, .mv (ki 0), none⟩, ⟨some 9, .mv (kb false), none⟩])
 .ret)
 .skip))
 (.seq (.rgx [[], [0], [], [2], [], [4], [1, 0, 3, 2, 5, 4], [], [], [], [7, 8, 9], [], [], [11, 6, 1, 0, 3, 2, 5, 4, 12], [12, 10, 7, 8, 9, 13, 11, 6, 1, 0, 3, 2, 5, 4]] [⟨some 36, .fa 3 (.t 4), none⟩, ⟨some 37, .ld false 1 (.t 36), none⟩, ⟨some 38, .fa 4 (.t 4), none⟩, ⟨some 39, .ld false 1 (.t 38), none⟩, ⟨some 40, .ld true 6 (.t 4), none⟩, ⟨some 41, .call (kf 16) [(.t 40)], none⟩, ⟨some 42, .bld [.int .i64 0, .int .i64 0, .slice none 0 0] [(0, 1, (.t 37)), (1, 1, (.t 39)), (2, 1, (.t 41))], none⟩, ⟨some 43, .mv (.t 1), none⟩, ⟨some 44, .mv (.t 2), none⟩, ⟨some 45, .mv (.t 3), none⟩, ⟨some 46, .bld [.int .i64 0, .int .i64 0, .slice none 0 0] [(0, 1, (.t 43)), (1, 1, (.t 44)), (2, 1, (.t 45))], none⟩, ⟨some 10, .alloc 76 3 [.int .i64 0, .int .i64 0, .slice none 0 0], none⟩, ⟨some 11, .alloc 76 3 [.int .i64 0, .int .i64 0, .slice none 0 0], none⟩, ⟨none, .st 3 (.t 10) (.t 42), none⟩, ⟨none, .st 3 (.t 11) (.t 46), none⟩])
 (.seq (.reg true [⟨some 47, .fa 0 (.t 10), none⟩, ⟨some 48, .ld false 1 (.t 47), none⟩, ⟨some 49, .fa 0 (.t 11), none⟩, ⟨some 50, .ld false 1 (.t 49), none⟩, ⟨some 51, .mx (.t 48) (.t 50), none⟩, ⟨some 52, .fa 0 (.t 10), none⟩, ⟨some 53, .ld false 1 (.t 52), none⟩, ⟨some 54, .fa 2 (.t 10), none⟩, ⟨some 55, .ld false 1 (.t 54), none⟩, ⟨some 56, .len (.t 55), none⟩, ⟨some 57, .bin .add (.t 53) (.t 56), none⟩, ⟨some 58, .fa 0 (.t 11), none⟩, ⟨some 59, .ld false 1 (.t 58), none⟩, ⟨some 60, .fa 2 (.t 11), none⟩, ⟨some 61, .ld false 1 (.t 60), none⟩, ⟨some 62, .len (.t 61), none⟩, ⟨some 63, .bin .add (.t 59) (.t 62), none⟩, ⟨some 64, .mn (.t 57) (.t 63), none⟩, ⟨some 12, .mv (.t 51), none⟩, ⟨some 13, .mv (.t 64), none⟩])
 (.seq (.reg false [⟨some 66, .ld true 3 (.t 10), none⟩, ⟨some 67, .mv (.t 12), none⟩, ⟨some 68, .call (kf 36) [(.t 66), (.t 67)], none⟩, ⟨some 65, .mv (.t 68), none⟩, ⟨some 69, .ex (.t 65) 0, none⟩, ⟨some 70, .ex (.t 65) 1, none⟩, ⟨some 14, .mv (.t 69), none⟩, ⟨some 15, .mv (.t 70), none⟩])
 (.seq (.reg false [⟨some 72, .ld true 3 (.t 11), none⟩, ⟨some 73, .mv (.t 12), none⟩, ⟨some 74, .call (kf 36) [(.t 72), (.t 73)], none⟩, ⟨some 71, .mv (.t 74), none⟩, ⟨some 75, .ex (.t 71) 0, none⟩, ⟨some 76, .ex (.t 71) 1, none⟩, ⟨some 16, .mv (.t 75), none⟩, ⟨some 17, .mv (.t 76), none⟩])
 (.seq (.seq (.reg false [⟨some 77, .mv (.t 12), none⟩, ⟨some 78, .mv (.t 13), none⟩, ⟨some 79, .bin .gtr (.t 77) (.t 78), none⟩, ⟨some 80, .mv (.t 79), none⟩, ⟨some 81, .mv (.t 15), some (80, false)⟩, ⟨some 82, .mv (.t 81), some (80, false)⟩, ⟨some 83, .mv (.t 17), some (82, true)⟩, ⟨some 84, .pick (.t 82) (.t 83) (kb false), some (80, false)⟩, ⟨some 85, .mv (.t 84), some (80, false)⟩, ⟨some 86, .mv (.t 14), some (85, true)⟩, ⟨some 87, .mv (.t 16), some (85, true)⟩, ⟨some 88, .bin .neq (.t 86) (.t 87), some (85, true)⟩, ⟨some 89, .pick (.t 85) (.t 88) (kb false), some (80, false)⟩, ⟨some 90, .pick (.t 80) (kb true) (.t 89), none⟩])
 (.cond (.t 90)
 (.seq (.reg false [⟨some 8, .mv (ki 0), none⟩, ⟨some 9, .mv (kb false), none⟩])
 .ret)
 .skip))
 (.seq (.seq (.reg false [⟨some 91, .mv (.t 12), none⟩, ⟨some 18, .mv (.t 91), none⟩])
 (.block 0 (.loop (.seq (.seq (.reg false [⟨some 92, .mv (.t 18), none⟩, ⟨some 93, .mv (.t 13), none⟩, ⟨some 94, .bin .lss (.t 92) (.t 93), none⟩])
 (.cond (.t 94)
 .skip
 (.exit 0)))
 (.seq (.block 1 (.seq (.reg false [⟨some 98, .ld true 3 (.t 10), none⟩, ⟨some 99, .mv (.t 18), none⟩, ⟨some 100, .bin .add (.t 99) (ki 1), none⟩, ⟨some 101, .call (kf 36) [(.t 98), (.t 100)], none⟩, ⟨some 97, .mv (.t 101), none⟩, ⟨some 102, .ex (.t 97) 0, none⟩, ⟨some 103, .ex (.t 97) 1, none⟩, ⟨some 19, .mv (.t 102), none⟩, ⟨some 20, .mv (.t 103), none⟩])
 (.seq (.reg false [⟨some 105, .ld true 3 (.t 11), none⟩, ⟨some 106, .mv (.t 18), none⟩, ⟨some 107, .bin .add (.t 106) (ki 1), none⟩, ⟨some 108, .call (kf 36) [(.t 105), (.t 107)], none⟩, ⟨some 104, .mv (.t 108), none⟩, ⟨some 109, .ex (.t 104) 0, none⟩, ⟨some 110, .ex (.t 104) 1, none⟩, ⟨some 21, .mv (.t 109), none⟩, ⟨some 22, .mv (.t 110), none⟩])
 (.seq (.reg false [⟨some 111, .mv (.t 19), none⟩, ⟨some 112, .mv (.t 21), none⟩, ⟨some 113, .bin .neq (.t 111) (.t 112), none⟩])
 (.cond (.t 113)
 (.seq (.reg false [⟨some 114, .mv (.t 18), none⟩, ⟨some 8, .mv (.t 114), none⟩, ⟨some 9, .mv (kb true), none⟩])
 .ret)
 .skip)))))
 (.reg false [⟨some 95, .mv (.t 18), none⟩, ⟨some 96, .bin .add (.t 95) (ki 1), none⟩, ⟨some 18, .mv (.t 96), none⟩]))))))
 (.seq (.reg false [⟨some 115, .mv (.t 13), none⟩, ⟨some 8, .mv (.t 115), none⟩, ⟨some 9, .mv (kb true), none⟩])
 .ret)))))))))
abbrev n_pglog_Alike : Nat := 15
theorem F_pglog_Alike : Fun Try.prog n_pglog_Alike 116 c_pglog_Alike [.t 8, .t 9] := ⟨⟨Try.f15, _, Try.func15, by kernel_rfl, rfl, rfl, by kernel_rfl, by kernel_rfl⟩⟩
/-- windrose/pglog.in -/
def c_pglog_in : C :=
 (.seq (.reg false [⟨some 6, .mv (kb false), none⟩])
 (.seq (.reg false [⟨some 7, .mv (.t 0), none⟩, ⟨some 8, .mv (.t 1), none⟩, ⟨some 9, .bin .geq (.t 7) (.t 8), none⟩, ⟨some 10, .mv (.t 9), none⟩, ⟨some 11, .mv (.t 0), some (10, true)⟩, ⟨some 12, .mv (.t 2), some (10, true)⟩, ⟨some 13, .bin .leq (.t 11) (.t 12), some (10, true)⟩, ⟨some 14, .pick (.t 10) (.t 13) (kb false), none⟩, ⟨some 6, .mv (.t 14), none⟩])
 .ret))
abbrev n_pglog_in : Nat := 26
theorem F_pglog_in : Fun Try.prog n_pglog_in 15 c_pglog_in [.t 6] := ⟨⟨Try.f26, _, Try.func26, by kernel_rfl, rfl, rfl, by kernel_rfl, by kernel_rfl⟩⟩
/-- windrose/pglog.entries -/
def c_pglog_entries : C :=
 (.seq (.reg false [⟨some 4, .mv (kb false), none⟩])
 (.seq (.seq (.reg false [⟨some 7, .mv (.t 0), none⟩, ⟨some 8, .len (.t 7), none⟩, ⟨some 9, .mv (ki 0), none⟩])
 (.block 0 (.loop (.seq (.reg false [⟨some 10, .bin .lss (.t 9) (.t 8), none⟩])
 (.seq (.cond (.t 10)
 .skip
 (.exit 0))
 (.seq (.block 1 (.seq (.reg false [⟨some 11, .ia 10 (.t 7) (.t 9), none⟩, ⟨some 12, .ld true 10 (.t 11), none⟩, ⟨some 6, .alloc 27 10 [.int .i64 0, .int .i64 0, .int .i64 0, .int .i64 0, .string ⟨#[]⟩, .int .i64 0, .int .i64 0, .int .i64 0, .int .i64 0, .int .i64 0], none⟩, ⟨none, .st 10 (.t 6) (.t 12), none⟩])
 (.seq (.seq (.reg false [⟨some 13, .ld true 10 (.t 6), none⟩, ⟨some 14, .call (kf 9) [(.t 13)], none⟩, ⟨some 15, .bin .neq (.t 14) (ki 0), none⟩, ⟨some 16, .mv (.t 15), none⟩, ⟨some 17, .fa 0 (.t 6), some (16, false)⟩, ⟨some 18, .ld false 1 (.t 17), some (16, false)⟩, ⟨some 19, .mv (.t 1), some (16, false)⟩, ⟨some 20, .bin .lss (.t 18) (.t 19), some (16, false)⟩, ⟨some 21, .pick (.t 16) (kb true) (.t 20), none⟩])
 (.cond (.t 21)
 (.seq (.reg false [⟨some 4, .mv (kb false), none⟩])
 .ret)
 .skip))
 (.reg false [⟨some 22, .fa 0 (.t 6), none⟩, ⟨some 23, .ld false 1 (.t 22), none⟩, ⟨some 1, .mv (.t 23), none⟩]))))
 (.reg false [⟨some 24, .bin .add (.t 9) (ki 1), none⟩, ⟨some 9, .mv (.t 24), none⟩])))))))
 (.seq (.reg false [⟨some 25, .mv (.t 0), none⟩, ⟨some 26, .len (.t 25), none⟩, ⟨some 27, .bin .leq (.t 26) (ki 32), none⟩, ⟨some 4, .mv (.t 27), none⟩])
 .ret)))
abbrev n_pglog_entries : Nat := 40
theorem F_pglog_entries : Fun Try.prog n_pglog_entries 28 c_pglog_entries [.t 4] := ⟨⟨Try.f40, _, Try.func40, by kernel_rfl, rfl, rfl, by kernel_rfl, by kernel_rfl⟩⟩
/-- windrose/windroseref28.in -/
def c_windroseref28_in : C :=
 (.seq (.reg false [⟨some 4, .mv (kb false), none⟩])
 (.seq (.reg false [⟨some 5, .mv (.t 0), none⟩, ⟨some 6, .mv (.t 1), none⟩, ⟨some 7, .bin .geq (.t 5) (.t 6), none⟩, ⟨some 8, .mv (.t 7), none⟩, ⟨some 9, .mv (.t 0), some (8, true)⟩, ⟨some 10, .bin .lss (.t 9) (ki 2147483648), some (8, true)⟩, ⟨some 11, .pick (.t 8) (.t 10) (kb false), none⟩, ⟨some 4, .mv (.t 11), none⟩])
 .ret))
abbrev n_windroseref28_in : Nat := 28
theorem F_windroseref28_in : Fun Try.prog n_windroseref28_in 12 c_windroseref28_in [.t 4] := ⟨⟨Try.f28, _, Try.func28, by kernel_rfl, rfl, rfl, by kernel_rfl, by kernel_rfl⟩⟩
/-- windrose/pglog.before -/
def c_pglog_before : C :=
 (.seq (.reg false [⟨some 2, .box 51 6 (.t 0), none⟩, ⟨some 4, .mv (ki 0), none⟩])
 (.seq (.seq (.reg false [⟨some 5, .mv (.t 1), none⟩, ⟨some 6, .fa 3 (.t 2), none⟩, ⟨some 7, .ld false 1 (.t 6), none⟩, ⟨some 8, .bin .eql (.t 5) (.t 7), none⟩])
 (.cond (.t 8)
 (.seq (.reg false [⟨some 9, .fa 4 (.t 2), none⟩, ⟨some 10, .ld false 1 (.t 9), none⟩, ⟨some 4, .mv (.t 10), none⟩])
 .ret)
 .skip))
 (.seq (.reg false [⟨some 11, .fa 5 (.t 2), none⟩, ⟨some 12, .ld false 1 (.t 11), none⟩, ⟨some 13, .mv (.t 1), none⟩, ⟨some 14, .fa 3 (.t 2), none⟩, ⟨some 15, .ld false 1 (.t 14), none⟩, ⟨some 16, .bin .sub (.t 13) (.t 15), none⟩, ⟨some 17, .bin .sub (.t 16) (ki 1), none⟩, ⟨some 18, .ia 10 (.t 12) (.t 17), none⟩, ⟨some 19, .fa 0 (.t 18), none⟩, ⟨some 20, .ld false 1 (.t 19), none⟩, ⟨some 4, .mv (.t 20), none⟩])
 .ret)))
abbrev n_pglog_before : Nat := 41
theorem F_pglog_before : Fun Try.prog n_pglog_before 21 c_pglog_before [.t 4] := ⟨⟨Try.f41, _, Try.func41, by kernel_rfl, rfl, rfl, by kernel_rfl, by kernel_rfl⟩⟩
/-- windrose/pglog.copied -/
def c_pglog_copied : C :=
 (.seq (.reg false [⟨some 1, .box 48 3 (.t 0), none⟩, ⟨some 2, .alloc 48 3 [.slice none 0 0, .slice none 0 0, .int .i64 0], none⟩])
 (.seq (.reg true [⟨some 5, .fa 0 (.t 1), none⟩, ⟨some 6, .ld false 1 (.t 5), none⟩, ⟨some 7, .call (kf 56) [(.t 6)], none⟩, ⟨some 8, .fa 1 (.t 1), none⟩, ⟨some 9, .ld false 1 (.t 8), none⟩, ⟨some 10, .call (kf 57) [(.t 9)], none⟩, ⟨some 11, .fa 0 (.t 1), none⟩, ⟨none, .st 1 (.t 11) (.t 7), none⟩, ⟨some 12, .fa 1 (.t 1), none⟩, ⟨none, .st 1 (.t 12) (.t 10), none⟩])
 (.seq (.seq (.reg false [⟨some 13, .fa 0 (.t 1), none⟩, ⟨some 14, .ld false 1 (.t 13), none⟩, ⟨some 15, .len (.t 14), none⟩, ⟨some 16, .mv (ki 0), none⟩])
 (.block 0 (.loop (.seq (.reg false [⟨some 17, .bin .lss (.t 16) (.t 15), none⟩])
 (.seq (.cond (.t 17)
 .skip
 (.exit 0))
 (.seq (.block 1 (.seq (.reg false [⟨some 18, .mv (.t 16), none⟩, ⟨some 19, .ia 2 (.t 14) (.t 16), none⟩, ⟨some 20, .ld true 2 (.t 19), none⟩, ⟨some 4, .alloc 87 2 [.string ⟨#[]⟩, .slice none 0 0], none⟩, ⟨some 3, .mv (.t 18), none⟩, ⟨none, .st 2 (.t 4) (.t 20), none⟩])
 (.reg true [⟨some 21, .fa 0 (.t 1), none⟩, ⟨some 22, .ld false 1 (.t 21), none⟩, ⟨some 23, .mv (.t 3), none⟩, ⟨some 24, .fa 1 (.t 4), none⟩, ⟨some 25, .ld false 1 (.t 24), none⟩, ⟨some 26, .call (kf 58) [(.t 25)], none⟩, ⟨some 27, .ia 2 (.t 22) (.t 23), none⟩, ⟨some 28, .fa 1 (.t 27), none⟩, ⟨none, .st 1 (.t 28) (.t 26), none⟩])))
 (.reg false [⟨some 29, .bin .add (.t 16) (ki 1), none⟩, ⟨some 16, .mv (.t 29), none⟩])))))))
 (.seq (.reg false [⟨some 30, .ld true 3 (.t 1), none⟩, ⟨none, .st 3 (.t 2) (.t 30), none⟩])
 .ret))))
abbrev n_pglog_copied : Nat := 51
theorem F_pglog_copied : Fun Try.prog n_pglog_copied 31 c_pglog_copied [.l true 3 2] := ⟨⟨Try.f51, _, Try.func51, by kernel_rfl, rfl, rfl, by kernel_rfl, by kernel_rfl⟩⟩
/-- windrose/pglog.own -/
def c_pglog_own : C :=
 (.seq (.reg false [⟨some 1, .box 51 6 (.t 0), none⟩, ⟨some 2, .alloc 51 6 [.slice none 0 0, .slice none 0 0, .int .i64 0, .int .i64 0, .int .i64 0, .slice none 0 0], none⟩])
 (.seq (.reg true [⟨some 3, .fa 0 (.t 1), none⟩, ⟨some 4, .ld true 3 (.t 3), none⟩, ⟨some 5, .call (kf 51) [(.t 4)], none⟩, ⟨some 6, .fa 5 (.t 1), none⟩, ⟨some 7, .ld false 1 (.t 6), none⟩, ⟨some 8, .call (kf 38) [(.t 7)], none⟩, ⟨some 9, .fa 0 (.t 1), none⟩, ⟨none, .st 3 (.t 9) (.t 5), none⟩, ⟨some 10, .fa 5 (.t 1), none⟩, ⟨none, .st 1 (.t 10) (.t 8), none⟩])
 (.seq (.reg false [⟨some 11, .ld true 6 (.t 1), none⟩, ⟨none, .st 6 (.t 2) (.t 11), none⟩])
 .ret)))
abbrev n_pglog_own : Nat := 39
theorem F_pglog_own : Fun Try.prog n_pglog_own 12 c_pglog_own [.l true 6 2] := ⟨⟨Try.f39, _, Try.func39, by kernel_rfl, rfl, rfl, by kernel_rfl, by kernel_rfl⟩⟩
/-- windrose/pglog.CheckEntry -/
def c_pglog_CheckEntry : C :=
 (.seq (.reg false [⟨some 1, .box 27 10 (.t 0), none⟩, ⟨some 2, .mv (ki 0), none⟩])
 (.seq (.seq (.reg false [⟨some 3, .fa 0 (.t 1), none⟩, ⟨some 4, .ld false 1 (.t 3), none⟩, ⟨some 5, .call (kf 26) [(.t 4), (ki 1), (ki 2147483647)], none⟩, ⟨some 6, .un .not (.t 5), none⟩, ⟨some 7, .mv (.t 6), none⟩, ⟨some 8, .fa 1 (.t 1), some (7, false)⟩, ⟨some 9, .ld false 1 (.t 8), some (7, false)⟩, ⟨some 10, .call (kf 26) [(.t 9), (ki 0), (ki 2147483647)], some (7, false)⟩, ⟨some 11, .un .not (.t 10), some (7, false)⟩, ⟨some 12, .pick (.t 7) (kb true) (.t 11), none⟩, ⟨some 13, .mv (.t 12), none⟩, ⟨some 14, .fa 2 (.t 1), some (13, false)⟩, ⟨some 15, .ld false 1 (.t 14), some (13, false)⟩, ⟨some 16, .call (kf 26) [(.t 15), (ki 1), (ki 2147483647)], some (13, false)⟩, ⟨some 17, .un .not (.t 16), some (13, false)⟩, ⟨some 18, .pick (.t 13) (kb true) (.t 17), none⟩])
 (.cond (.t 18)
 (.seq (.reg false [⟨some 2, .mv (ki 1), none⟩])
 .ret)
 .skip))
 (.seq (.reg false [⟨some 19, .fa 3 (.t 1), none⟩, ⟨some 20, .ld true 7 (.t 19), none⟩, ⟨some 21, .call (kf 27) [(.t 20)], none⟩, ⟨some 2, .mv (.t 21), none⟩])
 .ret)))
abbrev n_pglog_CheckEntry : Nat := 9
theorem F_pglog_CheckEntry : Fun Try.prog n_pglog_CheckEntry 22 c_pglog_CheckEntry [.t 2] := ⟨⟨Try.f9, _, Try.func9, by kernel_rfl, rfl, rfl, by kernel_rfl, by kernel_rfl⟩⟩
/-- slices.Clone[[]windrose/api.Entry,windrose/api.Entry] -/
def c_slices_Clone_api_Entry_api_Entry : C :=
 (.seq (.reg false [⟨some 2, .mv (.k (.one (.c (.v (.slice none 0 0))))), none⟩])
 (.seq (.seq (.reg false [⟨some 3, .mv (.t 0), none⟩, ⟨some 4, .eqb false (.t 3) (.k (.one (.c (.v (.slice none 0 0))))), none⟩])
 (.cond (.t 4)
 (.seq (.reg false [⟨some 2, .mv (.k (.one (.c (.v (.slice none 0 0))))), none⟩])
 .ret)
 .skip))
 (.seq (.reg false [⟨some 5, .bsl 27 10 0 [.int .i64 0, .int .i64 0, .int .i64 0, .int .i64 0, .string ⟨#[]⟩, .int .i64 0, .int .i64 0, .int .i64 0, .int .i64 0, .int .i64 0] [], none⟩, ⟨some 6, .mv (.t 0), none⟩, ⟨some 7, .app 27 10 88 [.int .i64 0, .int .i64 0, .int .i64 0, .int .i64 0, .string ⟨#[]⟩, .int .i64 0, .int .i64 0, .int .i64 0, .int .i64 0, .int .i64 0] (.t 5) (.t 6), none⟩, ⟨some 2, .mv (.t 7), none⟩])
 .ret)))
abbrev n_slices_Clone_api_Entry_api_Entry : Nat := 38
theorem F_slices_Clone_api_Entry_api_Entry : Fun Try.prog n_slices_Clone_api_Entry_api_Entry 8 c_slices_Clone_api_Entry_api_Entry [.t 2] := ⟨⟨Try.f38, _, Try.func38, by kernel_rfl, rfl, rfl, by kernel_rfl, by kernel_rfl⟩⟩
/-- windrose/windroseref28.Entry -/
def c_windroseref28_Entry : C :=
 (.seq (.reg false [⟨some 1, .box 27 10 (.t 0), none⟩, ⟨some 2, .mv (kb false), none⟩])
 (.seq (.reg false [⟨some 3, .fa 0 (.t 1), none⟩, ⟨some 4, .ld false 1 (.t 3), none⟩, ⟨some 5, .call (kf 28) [(.t 4), (ki 1)], none⟩, ⟨some 6, .mv (.t 5), none⟩, ⟨some 7, .fa 1 (.t 1), some (6, true)⟩, ⟨some 8, .ld false 1 (.t 7), some (6, true)⟩, ⟨some 9, .call (kf 28) [(.t 8), (ki 0)], some (6, true)⟩, ⟨some 10, .pick (.t 6) (.t 9) (kb false), none⟩, ⟨some 11, .mv (.t 10), none⟩, ⟨some 12, .fa 2 (.t 1), some (11, true)⟩, ⟨some 13, .ld false 1 (.t 12), some (11, true)⟩, ⟨some 14, .call (kf 28) [(.t 13), (ki 1)], some (11, true)⟩, ⟨some 15, .pick (.t 11) (.t 14) (kb false), none⟩, ⟨some 16, .mv (.t 15), none⟩, ⟨some 17, .fa 3 (.t 1), some (16, true)⟩, ⟨some 18, .ld true 7 (.t 17), some (16, true)⟩, ⟨some 19, .call (kf 29) [(.t 18)], some (16, true)⟩, ⟨some 20, .pick (.t 16) (.t 19) (kb false), none⟩, ⟨some 2, .mv (.t 20), none⟩])
 .ret))
abbrev n_windroseref28_Entry : Nat := 10
theorem F_windroseref28_Entry : Fun Try.prog n_windroseref28_Entry 21 c_windroseref28_Entry [.t 2] := ⟨⟨Try.f10, _, Try.func10, by kernel_rfl, rfl, rfl, by kernel_rfl, by kernel_rfl⟩⟩
/-- (windrose/pglog.other).before -/
def c_pglog_other_before : C :=
 (.seq (.reg false [⟨some 2, .box 76 3 (.t 0), none⟩, ⟨some 4, .mv (ki 0), none⟩, ⟨some 5, .mv (kb false), none⟩])
 (.seq (.seq (.reg false [⟨some 7, .mv (.t 1), none⟩, ⟨some 8, .fa 0 (.t 2), none⟩, ⟨some 9, .ld false 1 (.t 8), none⟩, ⟨some 10, .bin .sub (.t 7) (.t 9), none⟩, ⟨some 6, .mv (.t 10), none⟩])
 (.block 0 (.seq (.reg false [⟨some 12, .mv (.t 6), none⟩, ⟨some 13, .bin .eql (.t 12) (ki 0), none⟩, ⟨some 11, .mv (.t 13), none⟩])
 (.cond (.t 11)
 (.seq (.reg false [⟨some 14, .fa 1 (.t 2), none⟩, ⟨some 15, .ld false 1 (.t 14), none⟩, ⟨some 16, .mv (.t 1), none⟩, ⟨some 17, .bin .gtr (.t 16) (ki 0), none⟩, ⟨some 4, .mv (.t 15), none⟩, ⟨some 5, .mv (.t 17), none⟩])
 .ret)
 (.seq (.reg false [⟨some 19, .mv (.t 6), none⟩, ⟨some 20, .bin .gtr (.t 19) (ki 0), none⟩, ⟨some 21, .mv (.t 20), none⟩, ⟨some 22, .mv (.t 6), some (21, true)⟩, ⟨some 23, .fa 2 (.t 2), some (21, true)⟩, ⟨some 24, .ld false 1 (.t 23), some (21, true)⟩, ⟨some 25, .len (.t 24), some (21, true)⟩, ⟨some 26, .bin .leq (.t 22) (.t 25), some (21, true)⟩, ⟨some 27, .pick (.t 21) (.t 26) (kb false), none⟩, ⟨some 18, .mv (.t 27), none⟩])
 (.cond (.t 18)
 (.seq (.reg false [⟨some 28, .fa 2 (.t 2), none⟩, ⟨some 29, .ld false 1 (.t 28), none⟩, ⟨some 30, .mv (.t 6), none⟩, ⟨some 31, .bin .sub (.t 30) (ki 1), none⟩, ⟨some 32, .ia 1 (.t 29) (.t 31), none⟩, ⟨some 33, .ld false 1 (.t 32), none⟩, ⟨some 4, .mv (.t 33), none⟩, ⟨some 5, .mv (kb true), none⟩])
 .ret)
 .skip))))))
 (.seq (.reg false [⟨some 4, .mv (ki 0), none⟩, ⟨some 5, .mv (kb false), none⟩])
 .ret)))
abbrev n_pglog_other_before : Nat := 36
theorem F_pglog_other_before : Fun Try.prog n_pglog_other_before 34 c_pglog_other_before [.t 4, .t 5] := ⟨⟨Try.f36, _, Try.func36, by kernel_rfl, rfl, rfl, by kernel_rfl, by kernel_rfl⟩⟩
/-- windrose/pglog.Decode -/
def c_pglog_Decode : C :=
 (.seq (.reg false [⟨some 1, .box 31 2 (.t 0), none⟩, ⟨some 2, .alloc 27 10 [.int .i64 0, .int .i64 0, .int .i64 0, .int .i64 0, .string ⟨#[]⟩, .int .i64 0, .int .i64 0, .int .i64 0, .int .i64 0, .int .i64 0], none⟩, ⟨some 3, .mv (ki 0), none⟩])
 (.seq (.reg false [⟨some 9, .fa 0 (.t 1), none⟩, ⟨some 10, .ld false 1 (.t 9), none⟩, ⟨some 4, .mv (.t 10), none⟩])
 (.seq (.seq (.reg false [⟨some 11, .mv (.t 4), none⟩, ⟨some 12, .len (.t 11), none⟩, ⟨some 13, .bin .neq (.t 12) (ki 9), none⟩, ⟨some 14, .mv (.t 13), none⟩, ⟨some 15, .fa 1 (.t 1), some (14, false)⟩, ⟨some 16, .ld false 1 (.t 15), some (14, false)⟩, ⟨some 17, .len (.t 16), some (14, false)⟩, ⟨some 18, .bin .neq (.t 17) (ki 1), some (14, false)⟩, ⟨some 19, .pick (.t 14) (kb true) (.t 18), none⟩])
 (.cond (.t 19)
 (.seq (.reg false [⟨some 20, .bld [.int .i64 0, .int .i64 0, .int .i64 0, .int .i64 0, .string ⟨#[]⟩, .int .i64 0, .int .i64 0, .int .i64 0, .int .i64 0, .int .i64 0] [], none⟩, ⟨none, .st 10 (.t 2) (.t 20), none⟩, ⟨some 3, .mv (ki 2), none⟩])
 .ret)
 .skip))
 (.seq (.rgx [[], [0], [1, 0], [], [3], [4, 3], [5, 4, 3], [], [7], [8, 7], [], [10], [11, 10], [9, 8, 7, 12, 11, 10], [], [14], [15, 14], [], [17], [18, 17], [], [20], [21, 20], [2, 1, 0, 6, 5, 4, 3, 13, 9, 8, 7, 12, 11, 10, 16, 15, 14, 19, 18, 17, 22, 21, 20], [], [24, 23, 2, 1, 0, 6, 5, 4, 3, 13, 9, 8, 7, 12, 11, 10, 16, 15, 14, 19, 18, 17, 22, 21, 20]] [⟨some 21, .mv (.t 4), none⟩, ⟨some 22, .ia 1 (.t 21) (ki 3), none⟩, ⟨some 23, .ld false 1 (.t 22), none⟩, ⟨some 24, .fa 1 (.t 1), none⟩, ⟨some 25, .ld false 1 (.t 24), none⟩, ⟨some 26, .ia 1 (.t 25) (ki 0), none⟩, ⟨some 27, .ld false 1 (.t 26), none⟩, ⟨some 28, .mv (.t 4), none⟩, ⟨some 29, .ia 1 (.t 28) (ki 4), none⟩, ⟨some 30, .ld false 1 (.t 29), none⟩, ⟨some 31, .mv (.t 4), none⟩, ⟨some 32, .ia 1 (.t 31) (ki 5), none⟩, ⟨some 33, .ld false 1 (.t 32), none⟩, ⟨some 34, .bld [.int .i64 0, .int .i64 0] [(0, 1, (.t 30)), (1, 1, (.t 33))], none⟩, ⟨some 35, .mv (.t 4), none⟩, ⟨some 36, .ia 1 (.t 35) (ki 6), none⟩, ⟨some 37, .ld false 1 (.t 36), none⟩, ⟨some 38, .mv (.t 4), none⟩, ⟨some 39, .ia 1 (.t 38) (ki 7), none⟩, ⟨some 40, .ld false 1 (.t 39), none⟩, ⟨some 41, .mv (.t 4), none⟩, ⟨some 42, .ia 1 (.t 41) (ki 8), none⟩, ⟨some 43, .ld false 1 (.t 42), none⟩, ⟨some 44, .bld [.int .i64 0, .string ⟨#[]⟩, .int .i64 0, .int .i64 0, .int .i64 0, .int .i64 0, .int .i64 0] [(0, 1, (.t 23)), (1, 1, (.t 27)), (2, 2, (.t 34)), (4, 1, (.t 37)), (5, 1, (.t 40)), (6, 1, (.t 43))], none⟩, ⟨some 5, .alloc 25 7 [.int .i64 0, .string ⟨#[]⟩, .int .i64 0, .int .i64 0, .int .i64 0, .int .i64 0, .int .i64 0], none⟩, ⟨none, .st 7 (.t 5) (.t 44), none⟩])
 (.seq (.rgx [[], [0], [1, 0], [], [3], [4, 3], [], [6], [7, 6], [], [2, 1, 0, 5, 4, 3, 8, 7, 6, 9], [], [11, 10, 2, 1, 0, 5, 4, 3, 8, 7, 6, 9]] [⟨some 45, .mv (.t 4), none⟩, ⟨some 46, .ia 1 (.t 45) (ki 0), none⟩, ⟨some 47, .ld false 1 (.t 46), none⟩, ⟨some 48, .mv (.t 4), none⟩, ⟨some 49, .ia 1 (.t 48) (ki 1), none⟩, ⟨some 50, .ld false 1 (.t 49), none⟩, ⟨some 51, .mv (.t 4), none⟩, ⟨some 52, .ia 1 (.t 51) (ki 2), none⟩, ⟨some 53, .ld false 1 (.t 52), none⟩, ⟨some 54, .ld true 7 (.t 5), none⟩, ⟨some 55, .bld [.int .i64 0, .int .i64 0, .int .i64 0, .int .i64 0, .string ⟨#[]⟩, .int .i64 0, .int .i64 0, .int .i64 0, .int .i64 0, .int .i64 0] [(0, 1, (.t 47)), (1, 1, (.t 50)), (2, 1, (.t 53)), (3, 7, (.t 54))], none⟩, ⟨some 6, .alloc 27 10 [.int .i64 0, .int .i64 0, .int .i64 0, .int .i64 0, .string ⟨#[]⟩, .int .i64 0, .int .i64 0, .int .i64 0, .int .i64 0, .int .i64 0], none⟩, ⟨none, .st 10 (.t 6) (.t 55), none⟩])
 (.seq (.seq (.reg false [⟨some 57, .ld true 10 (.t 6), none⟩, ⟨some 58, .call (kf 8) [(.t 57)], none⟩, ⟨some 56, .mv (.t 58), none⟩, ⟨some 59, .ex (.t 56) 0, none⟩, ⟨some 60, .ex (.t 56) 1, none⟩, ⟨some 7, .alloc 31 2 [.slice none 0 0, .slice none 0 0], none⟩, ⟨none, .st 2 (.t 7) (.t 59), none⟩, ⟨some 8, .mv (.t 60), none⟩])
 (.seq (.reg false [⟨some 61, .mv (.t 8), none⟩, ⟨some 62, .bin .neq (.t 61) (ki 0), none⟩, ⟨some 63, .mv (.t 62), none⟩, ⟨some 64, .ld true 2 (.t 7), some (63, false)⟩, ⟨some 65, .ld true 2 (.t 1), some (63, false)⟩, ⟨some 66, .call (kf 25) [(.t 64), (.t 65)], some (63, false)⟩, ⟨some 67, .un .not (.t 66), some (63, false)⟩, ⟨some 68, .pick (.t 63) (kb true) (.t 67), none⟩])
 (.cond (.t 68)
 (.seq (.reg false [⟨some 69, .bld [.int .i64 0, .int .i64 0, .int .i64 0, .int .i64 0, .string ⟨#[]⟩, .int .i64 0, .int .i64 0, .int .i64 0, .int .i64 0, .int .i64 0] [], none⟩, ⟨none, .st 10 (.t 2) (.t 69), none⟩, ⟨some 3, .mv (ki 2), none⟩])
 .ret)
 .skip)))
 (.seq (.reg false [⟨some 70, .ld true 10 (.t 6), none⟩, ⟨none, .st 10 (.t 2) (.t 70), none⟩, ⟨some 3, .mv (ki 0), none⟩])
 .ret)))))))
abbrev n_pglog_Decode : Nat := 6
theorem F_pglog_Decode : Fun Try.prog n_pglog_Decode 71 c_pglog_Decode [.l true 10 2, .t 3] := ⟨⟨Try.f6, _, Try.func6, by kernel_rfl, rfl, rfl, by kernel_rfl, by kernel_rfl⟩⟩
/-- windrose/windroseref28.Decode -/
def c_windroseref28_Decode : C :=
 (.seq (.reg false [⟨some 1, .box 31 2 (.t 0), none⟩, ⟨some 2, .alloc 27 10 [.int .i64 0, .int .i64 0, .int .i64 0, .int .i64 0, .string ⟨#[]⟩, .int .i64 0, .int .i64 0, .int .i64 0, .int .i64 0, .int .i64 0], none⟩, ⟨some 3, .mv (kb false), none⟩])
 (.seq (.reg false [⟨some 6, .fa 0 (.t 1), none⟩, ⟨some 7, .ld false 1 (.t 6), none⟩, ⟨some 4, .mv (.t 7), none⟩])
 (.seq (.seq (.reg false [⟨some 8, .mv (.t 4), none⟩, ⟨some 9, .len (.t 8), none⟩, ⟨some 10, .bin .neq (.t 9) (ki 9), none⟩, ⟨some 11, .mv (.t 10), none⟩, ⟨some 12, .fa 1 (.t 1), some (11, false)⟩, ⟨some 13, .ld false 1 (.t 12), some (11, false)⟩, ⟨some 14, .len (.t 13), some (11, false)⟩, ⟨some 15, .bin .neq (.t 14) (ki 1), some (11, false)⟩, ⟨some 16, .pick (.t 11) (kb true) (.t 15), none⟩])
 (.cond (.t 16)
 (.seq (.reg false [⟨some 17, .bld [.int .i64 0, .int .i64 0, .int .i64 0, .int .i64 0, .string ⟨#[]⟩, .int .i64 0, .int .i64 0, .int .i64 0, .int .i64 0, .int .i64 0] [], none⟩, ⟨none, .st 10 (.t 2) (.t 17), none⟩, ⟨some 3, .mv (kb false), none⟩])
 .ret)
 .skip))
 (.seq (.rgx [[], [0], [1, 0], [], [3], [4, 3], [], [6], [7, 6], [2, 1, 0, 5, 4, 3, 8, 7, 6], [], [10, 9, 2, 1, 0, 5, 4, 3, 8, 7, 6]] [⟨some 18, .mv (.t 4), none⟩, ⟨some 19, .ia 1 (.t 18) (ki 0), none⟩, ⟨some 20, .ld false 1 (.t 19), none⟩, ⟨some 21, .mv (.t 4), none⟩, ⟨some 22, .ia 1 (.t 21) (ki 1), none⟩, ⟨some 23, .ld false 1 (.t 22), none⟩, ⟨some 24, .mv (.t 4), none⟩, ⟨some 25, .ia 1 (.t 24) (ki 2), none⟩, ⟨some 26, .ld false 1 (.t 25), none⟩, ⟨some 27, .bld [.int .i64 0, .int .i64 0, .int .i64 0, .int .i64 0, .string ⟨#[]⟩, .int .i64 0, .int .i64 0, .int .i64 0, .int .i64 0, .int .i64 0] [(0, 1, (.t 20)), (1, 1, (.t 23)), (2, 1, (.t 26))], none⟩, ⟨some 5, .alloc 27 10 [.int .i64 0, .int .i64 0, .int .i64 0, .int .i64 0, .string ⟨#[]⟩, .int .i64 0, .int .i64 0, .int .i64 0, .int .i64 0, .int .i64 0], none⟩, ⟨none, .st 10 (.t 5) (.t 27), none⟩])
 (.seq (.reg true [⟨some 28, .mv (.t 4), none⟩, ⟨some 29, .ia 1 (.t 28) (ki 3), none⟩, ⟨some 30, .ld false 1 (.t 29), none⟩, ⟨some 31, .fa 1 (.t 1), none⟩, ⟨some 32, .ld false 1 (.t 31), none⟩, ⟨some 33, .ia 1 (.t 32) (ki 0), none⟩, ⟨some 34, .ld false 1 (.t 33), none⟩, ⟨some 35, .mv (.t 4), none⟩, ⟨some 36, .ia 1 (.t 35) (ki 4), none⟩, ⟨some 37, .ld false 1 (.t 36), none⟩, ⟨some 38, .mv (.t 4), none⟩, ⟨some 39, .ia 1 (.t 38) (ki 5), none⟩, ⟨some 40, .ld false 1 (.t 39), none⟩, ⟨some 41, .bld [.int .i64 0, .int .i64 0] [(0, 1, (.t 37)), (1, 1, (.t 40))], none⟩, ⟨some 42, .mv (.t 4), none⟩, ⟨some 43, .ia 1 (.t 42) (ki 6), none⟩, ⟨some 44, .ld false 1 (.t 43), none⟩, ⟨some 45, .mv (.t 4), none⟩, ⟨some 46, .ia 1 (.t 45) (ki 7), none⟩, ⟨some 47, .ld false 1 (.t 46), none⟩, ⟨some 48, .mv (.t 4), none⟩, ⟨some 49, .ia 1 (.t 48) (ki 8), none⟩, ⟨some 50, .ld false 1 (.t 49), none⟩, ⟨some 51, .bld [.int .i64 0, .string ⟨#[]⟩, .int .i64 0, .int .i64 0, .int .i64 0, .int .i64 0, .int .i64 0] [(0, 1, (.t 30)), (1, 1, (.t 34)), (2, 2, (.t 41)), (4, 1, (.t 44)), (5, 1, (.t 47)), (6, 1, (.t 50))], none⟩, ⟨some 52, .fa 3 (.t 5), none⟩, ⟨none, .st 7 (.t 52) (.t 51), none⟩])
 (.seq (.seq (.reg true [⟨some 53, .ld true 10 (.t 5), none⟩, ⟨some 54, .call (kf 10) [(.t 53)], none⟩, ⟨some 55, .un .not (.t 54), none⟩, ⟨some 56, .mv (.t 55), none⟩, ⟨some 57, .ld true 10 (.t 5), some (56, false)⟩, ⟨some 58, .call (kf 12) [(.t 57)], some (56, false)⟩, ⟨some 59, .ld true 2 (.t 1), some (56, false)⟩, ⟨some 60, .call (kf 11) [(.t 58), (.t 59)], some (56, false)⟩, ⟨some 61, .un .not (.t 60), some (56, false)⟩, ⟨some 62, .pick (.t 56) (kb true) (.t 61), none⟩])
 (.cond (.t 62)
 (.seq (.reg false [⟨some 63, .bld [.int .i64 0, .int .i64 0, .int .i64 0, .int .i64 0, .string ⟨#[]⟩, .int .i64 0, .int .i64 0, .int .i64 0, .int .i64 0, .int .i64 0] [], none⟩, ⟨none, .st 10 (.t 2) (.t 63), none⟩, ⟨some 3, .mv (kb false), none⟩])
 .ret)
 .skip))
 (.seq (.reg false [⟨some 64, .ld true 10 (.t 5), none⟩, ⟨none, .st 10 (.t 2) (.t 64), none⟩, ⟨some 3, .mv (kb true), none⟩])
 .ret)))))))
abbrev n_windroseref28_Decode : Nat := 7
theorem F_windroseref28_Decode : Fun Try.prog n_windroseref28_Decode 65 c_windroseref28_Decode [.l true 10 2, .t 3] := ⟨⟨Try.f7, _, Try.func7, by kernel_rfl, rfl, rfl, by kernel_rfl, by kernel_rfl⟩⟩
/-- windrose/pglog.Encode -/
def c_pglog_Encode : C :=
 (.seq (.reg false [⟨some 1, .box 27 10 (.t 0), none⟩, ⟨some 2, .alloc 31 2 [.slice none 0 0, .slice none 0 0], none⟩, ⟨some 3, .mv (ki 0), none⟩])
 (.seq (.seq (.reg false [⟨some 6, .ld true 10 (.t 1), none⟩, ⟨some 7, .call (kf 9) [(.t 6)], none⟩, ⟨some 4, .mv (.t 7), none⟩])
 (.seq (.reg false [⟨some 8, .mv (.t 4), none⟩, ⟨some 9, .bin .neq (.t 8) (ki 0), none⟩])
 (.cond (.t 9)
 (.seq (.reg false [⟨some 10, .bld [.slice none 0 0, .slice none 0 0] [], none⟩, ⟨some 11, .mv (.t 4), none⟩, ⟨none, .st 2 (.t 2) (.t 10), none⟩, ⟨some 3, .mv (.t 11), none⟩])
 .ret)
 .skip)))
 (.seq (.reg false [⟨some 12, .fa 3 (.t 1), none⟩, ⟨some 13, .ld true 7 (.t 12), none⟩, ⟨some 5, .alloc 25 7 [.int .i64 0, .string ⟨#[]⟩, .int .i64 0, .int .i64 0, .int .i64 0, .int .i64 0, .int .i64 0], none⟩, ⟨none, .st 7 (.t 5) (.t 13), none⟩])
 (.seq (.reg false [⟨some 14, .fa 0 (.t 1), none⟩, ⟨some 15, .ld false 1 (.t 14), none⟩, ⟨some 16, .fa 1 (.t 1), none⟩, ⟨some 17, .ld false 1 (.t 16), none⟩, ⟨some 18, .fa 2 (.t 1), none⟩, ⟨some 19, .ld false 1 (.t 18), none⟩, ⟨some 20, .fa 0 (.t 5), none⟩, ⟨some 21, .ld false 1 (.t 20), none⟩, ⟨some 22, .fa 2 (.t 5), none⟩, ⟨some 23, .fa 0 (.t 22), none⟩, ⟨some 24, .ld false 1 (.t 23), none⟩, ⟨some 25, .fa 2 (.t 5), none⟩, ⟨some 26, .fa 1 (.t 25), none⟩, ⟨some 27, .ld false 1 (.t 26), none⟩, ⟨some 28, .fa 4 (.t 5), none⟩, ⟨some 29, .ld false 1 (.t 28), none⟩, ⟨some 30, .fa 5 (.t 5), none⟩, ⟨some 31, .ld false 1 (.t 30), none⟩, ⟨some 32, .fa 6 (.t 5), none⟩, ⟨some 33, .ld false 1 (.t 32), none⟩, ⟨some 34, .bsl 3 1 9 [.int .i64 0] [(0, (.t 15)), (1, (.t 17)), (2, (.t 19)), (3, (.t 21)), (4, (.t 24)), (5, (.t 27)), (6, (.t 29)), (7, (.t 31)), (8, (.t 33))], none⟩, ⟨some 35, .fa 1 (.t 5), none⟩, ⟨some 36, .ld false 1 (.t 35), none⟩, ⟨some 37, .bsl 9 1 1 [.string ⟨#[]⟩] [(0, (.t 36))], none⟩, ⟨some 38, .bld [.slice none 0 0, .slice none 0 0] [(0, 1, (.t 34)), (1, 1, (.t 37))], none⟩, ⟨none, .st 2 (.t 2) (.t 38), none⟩, ⟨some 3, .mv (ki 0), none⟩])
 .ret))))
abbrev n_pglog_Encode : Nat := 8
theorem F_pglog_Encode : Fun Try.prog n_pglog_Encode 39 c_pglog_Encode [.l true 2 2, .t 3] := ⟨⟨Try.f8, _, Try.func8, by kernel_rfl, rfl, rfl, by kernel_rfl, by kernel_rfl⟩⟩
/-- windrose/windroseref02.Same -/
def c_windroseref02_Same : C :=
 (.seq (.reg false [⟨some 2, .box 31 2 (.t 0), none⟩, ⟨some 3, .box 31 2 (.t 1), none⟩, ⟨some 4, .mv (kb false), none⟩])
 (.seq (.reg false [⟨some 5, .fa 0 (.t 2), none⟩, ⟨some 6, .ld false 1 (.t 5), none⟩, ⟨some 7, .fa 0 (.t 3), none⟩, ⟨some 8, .ld false 1 (.t 7), none⟩, ⟨some 9, .call (kf 30) [(.t 6), (.t 8)], none⟩, ⟨some 10, .mv (.t 9), none⟩, ⟨some 11, .fa 1 (.t 2), some (10, true)⟩, ⟨some 12, .ld false 1 (.t 11), some (10, true)⟩, ⟨some 13, .fa 1 (.t 3), some (10, true)⟩, ⟨some 14, .ld false 1 (.t 13), some (10, true)⟩, ⟨some 15, .call (kf 31) [(.t 12), (.t 14)], some (10, true)⟩, ⟨some 16, .pick (.t 10) (.t 15) (kb false), none⟩, ⟨some 4, .mv (.t 16), none⟩])
 .ret))
abbrev n_windroseref02_Same : Nat := 11
theorem F_windroseref02_Same : Fun Try.prog n_windroseref02_Same 17 c_windroseref02_Same [.t 4] := ⟨⟨Try.f11, _, Try.func11, by kernel_rfl, rfl, rfl, by kernel_rfl, by kernel_rfl⟩⟩
/-- windrose/windroseref28.Data -/
def c_windroseref28_Data : C :=
 (.seq (.reg false [⟨some 1, .box 27 10 (.t 0), none⟩, ⟨some 2, .alloc 31 2 [.slice none 0 0, .slice none 0 0], none⟩])
 (.seq (.reg false [⟨some 4, .fa 3 (.t 1), none⟩, ⟨some 5, .ld true 7 (.t 4), none⟩, ⟨some 3, .alloc 25 7 [.int .i64 0, .string ⟨#[]⟩, .int .i64 0, .int .i64 0, .int .i64 0, .int .i64 0, .int .i64 0], none⟩, ⟨none, .st 7 (.t 3) (.t 5), none⟩])
 (.seq (.reg false [⟨some 6, .fa 0 (.t 1), none⟩, ⟨some 7, .ld false 1 (.t 6), none⟩, ⟨some 8, .fa 1 (.t 1), none⟩, ⟨some 9, .ld false 1 (.t 8), none⟩, ⟨some 10, .fa 2 (.t 1), none⟩, ⟨some 11, .ld false 1 (.t 10), none⟩, ⟨some 12, .fa 0 (.t 3), none⟩, ⟨some 13, .ld false 1 (.t 12), none⟩, ⟨some 14, .fa 2 (.t 3), none⟩, ⟨some 15, .fa 0 (.t 14), none⟩, ⟨some 16, .ld false 1 (.t 15), none⟩, ⟨some 17, .fa 2 (.t 3), none⟩, ⟨some 18, .fa 1 (.t 17), none⟩, ⟨some 19, .ld false 1 (.t 18), none⟩, ⟨some 20, .fa 4 (.t 3), none⟩, ⟨some 21, .ld false 1 (.t 20), none⟩, ⟨some 22, .fa 5 (.t 3), none⟩, ⟨some 23, .ld false 1 (.t 22), none⟩, ⟨some 24, .fa 6 (.t 3), none⟩, ⟨some 25, .ld false 1 (.t 24), none⟩, ⟨some 26, .bsl 3 1 9 [.int .i64 0] [(0, (.t 7)), (1, (.t 9)), (2, (.t 11)), (3, (.t 13)), (4, (.t 16)), (5, (.t 19)), (6, (.t 21)), (7, (.t 23)), (8, (.t 25))], none⟩, ⟨some 27, .fa 1 (.t 3), none⟩, ⟨some 28, .ld false 1 (.t 27), none⟩, ⟨some 29, .bsl 9 1 1 [.string ⟨#[]⟩] [(0, (.t 28))], none⟩, ⟨some 30, .bld [.slice none 0 0, .slice none 0 0] [(0, 1, (.t 26)), (1, 1, (.t 29))], none⟩, ⟨none, .st 2 (.t 2) (.t 30), none⟩])
 .ret)))
abbrev n_windroseref28_Data : Nat := 12
theorem F_windroseref28_Data : Fun Try.prog n_windroseref28_Data 31 c_windroseref28_Data [.l true 2 2] := ⟨⟨Try.f12, _, Try.func12, by kernel_rfl, rfl, rfl, by kernel_rfl, by kernel_rfl⟩⟩
/-- windrose/frame.Same -/
def c_frame_Same : C :=
 (.seq (.reg false [⟨some 2, .box 31 2 (.t 0), none⟩, ⟨some 3, .box 31 2 (.t 1), none⟩, ⟨some 4, .mv (kb false), none⟩])
 (.seq (.reg false [⟨some 5, .fa 0 (.t 2), none⟩, ⟨some 6, .ld false 1 (.t 5), none⟩, ⟨some 7, .fa 0 (.t 3), none⟩, ⟨some 8, .ld false 1 (.t 7), none⟩, ⟨some 9, .call (kf 42) [(.t 6), (.t 8)], none⟩, ⟨some 10, .mv (.t 9), none⟩, ⟨some 11, .fa 1 (.t 2), some (10, true)⟩, ⟨some 12, .ld false 1 (.t 11), some (10, true)⟩, ⟨some 13, .fa 1 (.t 3), some (10, true)⟩, ⟨some 14, .ld false 1 (.t 13), some (10, true)⟩, ⟨some 15, .call (kf 43) [(.t 12), (.t 14)], some (10, true)⟩, ⟨some 16, .pick (.t 10) (.t 15) (kb false), none⟩, ⟨some 4, .mv (.t 16), none⟩])
 .ret))
abbrev n_frame_Same : Nat := 25
theorem F_frame_Same : Fun Try.prog n_frame_Same 17 c_frame_Same [.t 4] := ⟨⟨Try.f25, _, Try.func25, by kernel_rfl, rfl, rfl, by kernel_rfl, by kernel_rfl⟩⟩
/-- windrose/windroseref02.Strings -/
def c_windroseref02_Strings : C :=
 (.seq (.reg false [⟨some 4, .mv (kb false), none⟩])
 (.seq (.seq (.reg false [⟨some 6, .mv (.t 0), none⟩, ⟨some 7, .len (.t 6), none⟩, ⟨some 8, .mv (.t 1), none⟩, ⟨some 9, .len (.t 8), none⟩, ⟨some 10, .bin .neq (.t 7) (.t 9), none⟩])
 (.cond (.t 10)
 (.seq (.reg false [⟨some 4, .mv (kb false), none⟩])
 .ret)
 .skip))
 (.seq (.seq (.reg false [⟨some 5, .mv (ki 0), none⟩])
 (.block 0 (.loop (.seq (.seq (.reg false [⟨some 11, .mv (.t 5), none⟩, ⟨some 12, .mv (.t 0), none⟩, ⟨some 13, .len (.t 12), none⟩, ⟨some 14, .bin .lss (.t 11) (.t 13), none⟩])
 (.cond (.t 14)
 .skip
 (.exit 0)))
 (.seq (.block 1 (.seq (.reg true [⟨some 17, .mv (.t 0), none⟩, ⟨some 18, .mv (.t 5), none⟩, ⟨some 19, .ia 1 (.t 17) (.t 18), none⟩, ⟨some 20, .ld false 1 (.t 19), none⟩, ⟨some 21, .mv (.t 1), none⟩, ⟨some 22, .mv (.t 5), none⟩, ⟨some 23, .ia 1 (.t 21) (.t 22), none⟩, ⟨some 24, .ld false 1 (.t 23), none⟩, ⟨some 25, .bin .neq (.t 20) (.t 24), none⟩])
 (.cond (.t 25)
 (.seq (.reg false [⟨some 4, .mv (kb false), none⟩])
 .ret)
 .skip)))
 (.reg false [⟨some 15, .mv (.t 5), none⟩, ⟨some 16, .bin .add (.t 15) (ki 1), none⟩, ⟨some 5, .mv (.t 16), none⟩]))))))
 (.seq (.reg false [⟨some 4, .mv (kb true), none⟩])
 .ret))))
abbrev n_windroseref02_Strings : Nat := 31
theorem F_windroseref02_Strings : Fun Try.prog n_windroseref02_Strings 26 c_windroseref02_Strings [.t 4] := ⟨⟨Try.f31, _, Try.func31, by kernel_rfl, rfl, rfl, by kernel_rfl, by kernel_rfl⟩⟩
/-- slices.Equal[[]int,int] -/
def c_slices_Equal_int_int : C :=
 (.seq (.reg false [⟨some 4, .mv (kb false), none⟩])
 (.seq (.seq (.reg false [⟨some 6, .mv (.t 0), none⟩, ⟨some 7, .len (.t 6), none⟩, ⟨some 8, .mv (.t 1), none⟩, ⟨some 9, .len (.t 8), none⟩, ⟨some 10, .bin .neq (.t 7) (.t 9), none⟩])
 (.cond (.t 10)
 (.seq (.reg false [⟨some 4, .mv (kb false), none⟩])
 .ret)
 .skip))
 (.seq (.seq (.reg false [⟨some 11, .mv (.t 0), none⟩, ⟨some 12, .len (.t 11), none⟩, ⟨some 13, .mv (ki 0), none⟩])
 (.block 0 (.loop (.seq (.reg false [⟨some 14, .bin .lss (.t 13) (.t 12), none⟩])
 (.seq (.cond (.t 14)
 .skip
 (.exit 0))
 (.seq (.block 1 (.seq (.reg false [⟨some 15, .mv (.t 13), none⟩, ⟨some 5, .mv (.t 15), none⟩])
 (.seq (.reg true [⟨some 16, .mv (.t 0), none⟩, ⟨some 17, .mv (.t 5), none⟩, ⟨some 18, .ia 1 (.t 16) (.t 17), none⟩, ⟨some 19, .ld false 1 (.t 18), none⟩, ⟨some 20, .mv (.t 1), none⟩, ⟨some 21, .mv (.t 5), none⟩, ⟨some 22, .ia 1 (.t 20) (.t 21), none⟩, ⟨some 23, .ld false 1 (.t 22), none⟩, ⟨some 24, .bin .neq (.t 19) (.t 23), none⟩])
 (.cond (.t 24)
 (.seq (.reg false [⟨some 4, .mv (kb false), none⟩])
 .ret)
 .skip))))
 (.reg false [⟨some 25, .bin .add (.t 13) (ki 1), none⟩, ⟨some 13, .mv (.t 25), none⟩])))))))
 (.seq (.reg false [⟨some 4, .mv (kb true), none⟩])
 .ret))))
abbrev n_slices_Equal_int_int : Nat := 42
theorem F_slices_Equal_int_int : Fun Try.prog n_slices_Equal_int_int 26 c_slices_Equal_int_int [.t 4] := ⟨⟨Try.f42, _, Try.func42, by kernel_rfl, rfl, rfl, by kernel_rfl, by kernel_rfl⟩⟩
/-- slices.Equal[[]string,string] -/
def c_slices_Equal_string_string : C :=
 (.seq (.reg false [⟨some 4, .mv (kb false), none⟩])
 (.seq (.seq (.reg false [⟨some 6, .mv (.t 0), none⟩, ⟨some 7, .len (.t 6), none⟩, ⟨some 8, .mv (.t 1), none⟩, ⟨some 9, .len (.t 8), none⟩, ⟨some 10, .bin .neq (.t 7) (.t 9), none⟩])
 (.cond (.t 10)
 (.seq (.reg false [⟨some 4, .mv (kb false), none⟩])
 .ret)
 .skip))
 (.seq (.seq (.reg false [⟨some 11, .mv (.t 0), none⟩, ⟨some 12, .len (.t 11), none⟩, ⟨some 13, .mv (ki 0), none⟩])
 (.block 0 (.loop (.seq (.reg false [⟨some 14, .bin .lss (.t 13) (.t 12), none⟩])
 (.seq (.cond (.t 14)
 .skip
 (.exit 0))
 (.seq (.block 1 (.seq (.reg false [⟨some 15, .mv (.t 13), none⟩, ⟨some 5, .mv (.t 15), none⟩])
 (.seq (.reg true [⟨some 16, .mv (.t 0), none⟩, ⟨some 17, .mv (.t 5), none⟩, ⟨some 18, .ia 1 (.t 16) (.t 17), none⟩, ⟨some 19, .ld false 1 (.t 18), none⟩, ⟨some 20, .mv (.t 1), none⟩, ⟨some 21, .mv (.t 5), none⟩, ⟨some 22, .ia 1 (.t 20) (.t 21), none⟩, ⟨some 23, .ld false 1 (.t 22), none⟩, ⟨some 24, .bin .neq (.t 19) (.t 23), none⟩])
 (.cond (.t 24)
 (.seq (.reg false [⟨some 4, .mv (kb false), none⟩])
 .ret)
 .skip))))
 (.reg false [⟨some 25, .bin .add (.t 13) (ki 1), none⟩, ⟨some 13, .mv (.t 25), none⟩])))))))
 (.seq (.reg false [⟨some 4, .mv (kb true), none⟩])
 .ret))))
abbrev n_slices_Equal_string_string : Nat := 43
theorem F_slices_Equal_string_string : Fun Try.prog n_slices_Equal_string_string 26 c_slices_Equal_string_string [.t 4] := ⟨⟨Try.f43, _, Try.func43, by kernel_rfl, rfl, rfl, by kernel_rfl, by kernel_rfl⟩⟩
/-- windrose/windroselaw28.PglogCodes -/
def c_windroselaw28_PglogCodes : C :=
 (.seq (.reg false [⟨some 2, .box 27 10 (.t 0), none⟩, ⟨some 3, .box 31 2 (.t 1), none⟩, ⟨some 4, .mv (kb false), none⟩])
 (.seq (.seq (.reg false [⟨some 14, .fa 3 (.t 2), none⟩, ⟨some 15, .fa 1 (.t 14), none⟩, ⟨some 16, .ld false 1 (.t 15), none⟩, ⟨some 17, .lens (.t 16), none⟩, ⟨some 18, .bin .gtr (.t 17) (ki 300), none⟩, ⟨some 19, .mv (.t 18), none⟩, ⟨some 20, .fa 0 (.t 3), some (19, false)⟩, ⟨some 21, .ld false 1 (.t 20), some (19, false)⟩, ⟨some 22, .len (.t 21), some (19, false)⟩, ⟨some 23, .bin .gtr (.t 22) (ki 20), some (19, false)⟩, ⟨some 24, .pick (.t 19) (kb true) (.t 23), none⟩, ⟨some 25, .mv (.t 24), none⟩, ⟨some 26, .fa 1 (.t 3), some (25, false)⟩, ⟨some 27, .ld false 1 (.t 26), some (25, false)⟩, ⟨some 28, .len (.t 27), some (25, false)⟩, ⟨some 29, .bin .gtr (.t 28) (ki 3), some (25, false)⟩, ⟨some 30, .pick (.t 25) (kb true) (.t 29), none⟩])
 (.cond (.t 30)
 (.seq (.reg false [⟨some 31, .call (kf 5) [], none⟩, ⟨some 4, .mv (.t 31), none⟩])
 .ret)
 .skip))
 (.seq (.seq (.reg false [⟨some 5, .mv (ki 0), none⟩])
 (.block 0 (.loop (.seq (.seq (.reg false [⟨some 32, .mv (.t 5), none⟩, ⟨some 33, .fa 1 (.t 3), none⟩, ⟨some 34, .ld false 1 (.t 33), none⟩, ⟨some 35, .len (.t 34), none⟩, ⟨some 36, .bin .lss (.t 32) (.t 35), none⟩])
 (.cond (.t 36)
 .skip
 (.exit 0)))
 (.seq (.block 1 (.seq (.reg false [⟨some 39, .fa 1 (.t 3), none⟩, ⟨some 40, .ld false 1 (.t 39), none⟩, ⟨some 41, .mv (.t 5), none⟩, ⟨some 42, .ia 1 (.t 40) (.t 41), none⟩, ⟨some 43, .ld false 1 (.t 42), none⟩, ⟨some 44, .lens (.t 43), none⟩, ⟨some 45, .bin .gtr (.t 44) (ki 300), none⟩])
 (.cond (.t 45)
 (.seq (.reg false [⟨some 46, .call (kf 5) [], none⟩, ⟨some 4, .mv (.t 46), none⟩])
 .ret)
 .skip)))
 (.reg false [⟨some 37, .mv (.t 5), none⟩, ⟨some 38, .bin .add (.t 37) (ki 1), none⟩, ⟨some 5, .mv (.t 38), none⟩]))))))
 (.seq (.reg false [⟨some 48, .ld true 2 (.t 3), none⟩, ⟨some 49, .call (kf 6) [(.t 48)], none⟩, ⟨some 47, .mv (.t 49), none⟩, ⟨some 50, .ex (.t 47) 0, none⟩, ⟨some 51, .ex (.t 47) 1, none⟩, ⟨some 6, .alloc 27 10 [.int .i64 0, .int .i64 0, .int .i64 0, .int .i64 0, .string ⟨#[]⟩, .int .i64 0, .int .i64 0, .int .i64 0, .int .i64 0, .int .i64 0], none⟩, ⟨none, .st 10 (.t 6) (.t 50), none⟩, ⟨some 7, .mv (.t 51), none⟩])
 (.seq (.reg false [⟨some 53, .ld true 2 (.t 3), none⟩, ⟨some 54, .call (kf 7) [(.t 53)], none⟩, ⟨some 52, .mv (.t 54), none⟩, ⟨some 55, .ex (.t 52) 0, none⟩, ⟨some 56, .ex (.t 52) 1, none⟩, ⟨some 8, .alloc 27 10 [.int .i64 0, .int .i64 0, .int .i64 0, .int .i64 0, .string ⟨#[]⟩, .int .i64 0, .int .i64 0, .int .i64 0, .int .i64 0, .int .i64 0], none⟩, ⟨none, .st 10 (.t 8) (.t 55), none⟩, ⟨some 9, .mv (.t 56), none⟩])
 (.seq (.seq (.reg false [⟨some 57, .mv (.t 9), none⟩, ⟨some 58, .mv (.t 7), none⟩, ⟨some 59, .bin .eql (.t 58) (ki 0), none⟩, ⟨some 60, .eqb true (.t 57) (.t 59), none⟩, ⟨some 61, .mv (.t 60), none⟩, ⟨some 62, .mv (.t 9), some (61, false)⟩, ⟨some 63, .un .not (.t 62), some (61, false)⟩, ⟨some 64, .mv (.t 63), some (61, false)⟩, ⟨some 65, .mv (.t 7), some (64, true)⟩, ⟨some 66, .bin .neq (.t 65) (ki 2), some (64, true)⟩, ⟨some 67, .pick (.t 64) (.t 66) (kb false), some (61, false)⟩, ⟨some 68, .pick (.t 61) (kb true) (.t 67), none⟩, ⟨some 69, .mv (.t 68), none⟩, ⟨some 70, .ld true 10 (.t 6), some (69, false)⟩, ⟨some 71, .ld true 10 (.t 8), some (69, false)⟩, ⟨some 72, .eqa [1, 1, 1, 1, 2, 1, 1, 1, 1, 1] true (.t 70) (.t 71), some (69, false)⟩, ⟨some 73, .pick (.t 69) (kb true) (.t 72), none⟩])
 (.cond (.t 73)
 (.seq (.reg false [⟨some 4, .mv (kb false), none⟩])
 .ret)
 .skip))
 (.seq (.reg false [⟨some 75, .ld true 10 (.t 2), none⟩, ⟨some 76, .call (kf 8) [(.t 75)], none⟩, ⟨some 74, .mv (.t 76), none⟩, ⟨some 77, .ex (.t 74) 0, none⟩, ⟨some 78, .ex (.t 74) 1, none⟩, ⟨some 10, .alloc 31 2 [.slice none 0 0, .slice none 0 0], none⟩, ⟨none, .st 2 (.t 10) (.t 77), none⟩, ⟨some 11, .mv (.t 78), none⟩])
 (.seq (.seq (.reg true [⟨some 79, .ld true 10 (.t 2), none⟩, ⟨some 80, .call (kf 9) [(.t 79)], none⟩, ⟨some 81, .bin .eql (.t 80) (ki 0), none⟩, ⟨some 82, .ld true 10 (.t 2), none⟩, ⟨some 83, .call (kf 10) [(.t 82)], none⟩, ⟨some 84, .eqb true (.t 81) (.t 83), none⟩])
 (.cond (.t 84)
 (.seq (.reg false [⟨some 4, .mv (kb false), none⟩])
 .ret)
 .skip))
 (.seq (.seq (.reg false [⟨some 85, .ld true 10 (.t 2), none⟩, ⟨some 86, .call (kf 10) [(.t 85)], none⟩, ⟨some 87, .un .not (.t 86), none⟩])
 (.cond (.t 87)
 (.seq (.reg false [⟨some 88, .mv (.t 11), none⟩, ⟨some 89, .bin .eql (.t 88) (ki 1), none⟩, ⟨some 90, .mv (.t 89), none⟩, ⟨some 91, .ld true 2 (.t 10), some (90, true)⟩, ⟨some 92, .bld [.slice none 0 0, .slice none 0 0] [], some (90, true)⟩, ⟨some 93, .call (kf 11) [(.t 91), (.t 92)], some (90, true)⟩, ⟨some 94, .pick (.t 90) (.t 93) (kb false), none⟩, ⟨some 95, .mv (.t 94), none⟩, ⟨some 96, .call (kf 5) [], some (95, true)⟩, ⟨some 97, .pick (.t 95) (.t 96) (kb false), none⟩, ⟨some 4, .mv (.t 97), none⟩])
 .ret)
 .skip))
 (.seq (.reg false [⟨some 99, .ld true 2 (.t 10), none⟩, ⟨some 100, .call (kf 6) [(.t 99)], none⟩, ⟨some 98, .mv (.t 100), none⟩, ⟨some 101, .ex (.t 98) 0, none⟩, ⟨some 102, .ex (.t 98) 1, none⟩, ⟨some 12, .alloc 27 10 [.int .i64 0, .int .i64 0, .int .i64 0, .int .i64 0, .string ⟨#[]⟩, .int .i64 0, .int .i64 0, .int .i64 0, .int .i64 0, .int .i64 0], none⟩, ⟨none, .st 10 (.t 12) (.t 101), none⟩, ⟨some 13, .mv (.t 102), none⟩])
 (.seq (.reg true [⟨some 103, .mv (.t 11), none⟩, ⟨some 104, .bin .eql (.t 103) (ki 0), none⟩, ⟨some 105, .mv (.t 104), none⟩, ⟨some 106, .ld true 2 (.t 10), some (105, true)⟩, ⟨some 107, .ld true 10 (.t 2), some (105, true)⟩, ⟨some 108, .call (kf 12) [(.t 107)], some (105, true)⟩, ⟨some 109, .call (kf 11) [(.t 106), (.t 108)], some (105, true)⟩, ⟨some 110, .pick (.t 105) (.t 109) (kb false), none⟩, ⟨some 111, .mv (.t 110), none⟩, ⟨some 112, .mv (.t 13), some (111, true)⟩, ⟨some 113, .bin .eql (.t 112) (ki 0), some (111, true)⟩, ⟨some 114, .pick (.t 111) (.t 113) (kb false), none⟩, ⟨some 115, .mv (.t 114), none⟩, ⟨some 116, .ld true 10 (.t 12), some (115, true)⟩, ⟨some 117, .ld true 10 (.t 2), some (115, true)⟩, ⟨some 118, .eqa [1, 1, 1, 1, 2, 1, 1, 1, 1, 1] false (.t 116) (.t 117), some (115, true)⟩, ⟨some 119, .pick (.t 115) (.t 118) (kb false), none⟩, ⟨some 120, .mv (.t 119), none⟩, ⟨some 121, .call (kf 5) [], some (120, true)⟩, ⟨some 122, .pick (.t 120) (.t 121) (kb false), none⟩, ⟨some 4, .mv (.t 122), none⟩])
 .ret)))))))))))
abbrev n_windroselaw28_PglogCodes : Nat := 3
theorem F_windroselaw28_PglogCodes : Fun Try.prog n_windroselaw28_PglogCodes 123 c_windroselaw28_PglogCodes [.t 4] := ⟨⟨Try.f3, _, Try.func3, by kernel_rfl, rfl, rfl, by kernel_rfl, by kernel_rfl⟩⟩
end Go.Proofs.Ytcmkhlfjcdchmaa.A
end
section
namespace Go.Proofs.Ytcmkhlfjcdchmaa.A
open Go Go.Proofs Go.Proofs.YtcmkhlfjcdchmaaAbs
attribute [go_sem] opRow
structure Lg where
  base : Shf
  trim : Int
  epoch : Int
  tail : List Ent
instance : Inhabited Lg := ⟨⟨⟨[], [], 0⟩, 0, 0, []⟩⟩
abbrev lgCells (x : Lg) : List AV := [.c (immL 2 Lin.c x.base.lines), .c (immL 5 Dn.c x.base.dones), .c (.v (.int .i64 x.base.floor)), .c (.v (.int .i64 x.trim)), .c (.v (.int .i64 x.epoch)), .c (immL 10 Ent.c x.tail)]
abbrev lgA (x : Lg) : Pt := .agg (lgCells x)
@[go_sem] def Lg.c (x : Lg) : Nat → CV
  | 0 => immL 2 Lin.c x.base.lines
  | 1 => immL 5 Dn.c x.base.dones
  | 2 => .v (.int .i64 x.base.floor)
  | 3 => .v (.int .i64 x.trim)
  | 4 => .v (.int .i64 x.epoch)
  | _ => immL 10 Ent.c x.tail
/-- A log that is not too great to be looked at. -/
structure zLg (l : Lg) : Prop where
  base : zShf l.base
  len : l.tail.length ≤ 1000
  ser : ∀ e ∈ l.tail, e.op.ser.size ≤ 2000
abbrev entB (x : Ent) : Blk := .rows 27 10 0 [entCells x] true
abbrev lgB (x : Lg) : Blk := .rows 51 6 0 [lgCells x] true
theorem pin_rc (n lo hi : Int) (M : List Blk) : CallR Try.prog M n_pglog_in [.i n, .i lo, .i hi] (.b (decide (lo ≤ n) && decide (n ≤ hi))) M := by
  refine callP F_pglog_in (Nat.le_of_ble_eq_true rfl) (by simp only [go_sem]) (by simp only [go_sem]) ?_ M
  simp only [c_pglog_in, go_sem]
theorem rpin_rc (n lo : Int) (M : List Blk) : CallR Try.prog M n_windroseref28_in [.i n, .i lo] (.b (decide (lo ≤ n) && decide (n < 2147483648))) M := by
  refine callP F_windroseref28_in (Nat.le_of_ble_eq_true rfl) (by simp only [go_sem]) (by simp only [go_sem]) ?_ M
  simp only [c_windroseref28_in, go_sem]
def entOk (e : Ent) : Bool := decide (1 ≤ e.epoch) && decide (e.epoch ≤ 2147483647) && decide (0 ≤ e.client) && decide (e.client ≤ 2147483647) && decide (1 ≤ e.id) && decide (e.id ≤ 2147483647) && opOk e.op
theorem endI {n : Nat} (v : Int) (e : Nat → SV) (X : List Blk) (r : Nat) (h4 : e r = .i v) : FinK n 0 [.t r] (.i v) [] .ret ⟨e, X⟩ := by
  refine fin0 (.inr rfl) (qs := [.one (.c (.v (.int .i64 v)))]) (cnd := True) ?_ trivial (SubS.refl _) (by simp only [go_sem])
  simp only [go_sem, h4]
set_option maxRecDepth 20000 in
theorem CheckEntry_rc (e : Ent) (ho : e.op.ser.size ≤ 2000) (M : List Blk) : CallR Try.prog M n_pglog_CheckEntry [entA e] (.i (if entOk e then 0 else 1)) M := by
  refine callPG F_pglog_CheckEntry (Nat.le_of_ble_eq_true rfl) (by simp only [go_sem]) ?_ M
  obtain ⟨epoch, client, id, op⟩ := e
  refine run_seqV ?_
  simp only [go_sem]
  refine run_seqV ?_
  simp only [go_sem]
  refine call0 (pin_rc _ _ _) ?_
  simp only [go_sem]
  refine callg0 (fun _ => pin_rc client 0 2147483647) ?_
  simp only [go_sem]
  refine callg0 (fun _ => pin_rc id 1 2147483647) ?_
  simp only [go_sem]
  refine ⟨fun hc => ?_, fun hc => ?_⟩
  · have : entOk ⟨epoch, client, id, op⟩ = false := by
      rw [← Bool.not_eq_true]
      intro h
      simp only [entOk, Bool.and_eq_true, decide_eq_true_eq] at h
      simp only [Bool.or_eq_true, Bool.not_eq_true', Bool.and_eq_false_iff, decide_eq_false_iff_not] at hc
      omega
    rw [this]
    exact endI 1 _ _ 2 (by simp only [go_sem])
  · have : entOk ⟨epoch, client, id, op⟩ = opOk op := by
      simp only [Bool.or_eq_false_iff, Bool.not_eq_false', Bool.and_eq_true, decide_eq_true_eq] at hc
      simp only [entOk, hc, decide_true, Bool.true_and]
    rw [this]
    refine V_sound ?_
    simp only [go_sem]
    refine call0 (CheckOp_rc op ho) ?_
    simp only [go_sem]
    exact endI _ _ _ 2 (by simp only [go_sem])
set_option maxRecDepth 20000 in
theorem rEntry_rc (e : Ent) (ho : e.op.ser.size ≤ 2000) (M : List Blk) : CallR Try.prog M n_windroseref28_Entry [entA e] (.b (entOk e)) M := by
  refine callPG F_windroseref28_Entry (Nat.le_of_ble_eq_true rfl) (by simp only [go_sem]) ?_ M
  obtain ⟨epoch, client, id, op⟩ := e
  refine run_seqV ?_
  simp only [go_sem]
  refine run_seqV ?_
  simp only [go_sem]
  refine call0 (rpin_rc _ _) ?_
  simp only [go_sem]
  refine callg0 (fun _ => rpin_rc client 0) ?_
  simp only [go_sem]
  refine callg0 (fun _ => rpin_rc id 1) ?_
  simp only [go_sem]
  refine callg0 (fun _ => rOp_rc op ho) ?_
  simp only [go_sem]
  refine run_ret ?_
  have : entOk ⟨epoch, client, id, op⟩ = (decide (1 ≤ epoch) && decide (epoch < 2147483648) && (decide (0 ≤ client) && decide (client < 2147483648)) && (decide (1 ≤ id) && decide (id < 2147483648)) && opOk op) := by
    have h8 : ∀ x : Int, decide (x < 2147483648) = decide (x ≤ 2147483647) := fun x => by rw [decide_eq_decide]; omega
    simp only [entOk, h8, Bool.and_assoc]
  rw [this]
  exact endB _ _ _ 2 (by simp only [go_sem])
/-- The epoch ahead of a place of entries. -/
def epAt (l : List Ent) (ep : Int) (i : Nat) : Int := if i = 0 then ep else (l.getD (i - 1) default).epoch
def enAt (l : List Ent) (ep : Int) (i : Nat) : Bool := entOk (l.getD i default) && decide (epAt l ep i ≤ (l.getD i default).epoch)
def entsOk (l : List Ent) (ep : Int) : Bool := decide (l.length ≤ 32) && (List.range l.length).all (enAt l ep)
theorem entsOk_f {l : List Ent} {ep : Int} {k : Nat} (hk : k < l.length) (h : enAt l ep k = false) : entsOk l ep = false := by rw [entsOk, all_f hk h, Bool.and_false]
theorem entsOk_t {l : List Ent} {ep : Int} (h : ∀ i, i < l.length → enAt l ep i = true) : entsOk l ep = decide (l.length ≤ 32) := by rw [entsOk, all_t h, Bool.and_true]
theorem epAt_succ (l : List Ent) (ep : Int) (k : Nat) : epAt l ep (k + 1) = (l.getD k default).epoch := by simp [epAt]
set_option maxRecDepth 20000 in
theorem entries28_rc (l : List Ent) (hl : l.length ≤ 1000) (hs : ∀ e ∈ l, e.op.ser.size ≤ 2000) (ep : Int) (M : List Blk) : CallR Try.prog M n_pglog_entries [entL l, .i ep] (.b (entsOk l ep)) M := by
  refine callPG F_pglog_entries (Nat.le_of_ble_eq_true rfl) (by simp only [go_sem]) ?_ M
  refine run_seqV ?_
  simp only [go_sem]
  refine run_seqV ?_
  simp only [go_sem]
  refine R_loop (ι := Nat) (J := fun k => k ≤ l.length ∧ ∀ i, i < k → enAt l ep i = true)
    (env := fun k => [(0, .p (entL l)), (1, .i (epAt l ep k)), (7, .p (entL l)), (8, .i l.length), (9, .i k)])
    (mem := fun _ => []) (μ := fun k => l.length - k) 0 ⟨Nat.zero_le _, fun j hj => absurd hj (Nat.not_lt_zero _)⟩ ⟨[], rfl, Nat.zero_le _, ?_, ?_⟩ ?_
  · simp only [go_sem, epAt]
  · intro x hx; cases hx
  rintro k ⟨hk, hok⟩
  refine run_seqV ?_
  simp only [go_sem]
  refine run_seqV ?_
  simp only [go_sem]
  refine ⟨fun h1 => ?_, fun h1 => ?_⟩
  · have e3 : IntKind.i64.wrap ((k : Int) + 1) = ((k + 1 : Nat) : Int) := w64s (by omega)
    have hsz : (l.getD k default).op.ser.size ≤ 2000 := by rw [gd_get h1]; exact hs _ (List.getElem_mem h1)
    refine run_seq ?_
    refine run_block ?_
    refine run_seqV ?_
    simp only [go_sem]
    refine ⟨⟨by omega, h1⟩, run_seqV ?_⟩
    simp only [go_sem]
    refine call0 (CheckEntry_rc _ hsz) ?_
    simp only [go_sem]
    rw [ifne]
    have key : (!entOk (l.getD k default) || decide ((l.getD k default).epoch < epAt l ep k)) = !enAt l ep k := by
      rw [enAt, Bool.not_and]
      congr 1
      rw [Bool.eq_iff_iff]; simp
    refine ⟨fun hc => ?_, fun hc => ?_⟩
    · rw [key] at hc
      rw [entsOk_f h1 (by simpa using hc)]
      exact endB false _ _ 4 (by simp only [go_sem])
    · rw [key] at hc
      refine V_sound ?_
      simp only [go_sem]
      refine V_sound ?_
      simp only [go_sem, e3]
      refine ⟨k + 1, ⟨h1, fun i hi => ?_⟩, by omega, [_], rfl, Nat.zero_le _, ?_, ?_⟩
      · by_cases e : i = k
        · subst e; simpa using hc
        · exact hok i (by omega)
      · simp only [go_sem, epAt_succ]
      · intro x hx; cases hx
  · have hkl : k = l.length := by omega
    subst hkl
    rw [entsOk_t hok]
    refine V_sound ?_
    simp only [go_sem]
    have : decide (l.length ≤ 32) = decide ((l.length : Int) ≤ 32) := by rw [decide_eq_decide]; omega
    rw [this]
    exact endB _ _ _ 4 (by simp only [go_sem])
end Go.Proofs.Ytcmkhlfjcdchmaa.A
end
section
namespace Go.Proofs.Ytcmkhlfjcdchmaa.A
open Go Go.Proofs Go.Proofs.YtcmkhlfjcdchmaaAbs
def lgOk (l : Lg) : Bool := shOk l.base && decide (0 ≤ l.trim) && decide (l.trim ≤ 2147483647) && decide (0 ≤ l.epoch) && decide (l.epoch ≤ 2147483647) && (decide (l.trim = 0) == decide (l.epoch = 0)) && entsOk l.tail l.epoch && decide (l.trim ≤ 2147483647 - l.tail.length)
set_option maxRecDepth 20000 in
theorem pCheck_rc (l : Lg) (hz : zLg l) (M : List Blk) : CallR Try.prog M n_pglog_Check [lgA l] (.i (if lgOk l then 0 else 1)) M := by
  refine callPG F_pglog_Check (Nat.le_of_ble_eq_true rfl) (by simp only [go_sem]) ?_ M
  obtain ⟨hb, hl, hs⟩ := hz
  obtain ⟨base, trim, epoch, tail⟩ := l
  simp only at hb hl hs ⊢
  refine run_seqV ?_
  simp only [go_sem]
  refine run_seqV ?_
  simp only [go_sem]
  refine call0 (sCheck_rc base hb) ?_
  simp only [go_sem]
  refine callg0 (fun _ => pin_rc trim 0 2147483647) ?_
  simp only [go_sem]
  refine callg0 (fun _ => pin_rc epoch 0 2147483647) ?_
  simp only [go_sem]
  rw [ifne]
  refine ⟨fun hc => ?_, fun hc => ?_⟩
  · have : lgOk ⟨base, trim, epoch, tail⟩ = false := by
      rw [← Bool.not_eq_true]
      intro h
      simp only [lgOk] at h
      grind
    rw [this]
    exact endI 1 _ _ 2 (by simp only [go_sem])
  · refine run_seqV ?_
    simp only [go_sem]
    refine call0 (entries28_rc tail hl hs epoch) ?_
    simp only [go_sem]
    rw [w64 (n := 2147483647 - (tail.length : Int)) (by omega) (by omega)]
    have : lgOk ⟨base, trim, epoch, tail⟩ = (entsOk tail epoch && decide (trim ≤ 2147483647 - tail.length)) := by
      simp only [lgOk]
      grind
    rw [this]
    refine ⟨fun hd => ?_, fun hd => ?_⟩
    · have : (entsOk tail epoch && decide (trim ≤ 2147483647 - tail.length)) = false := by
        rw [← Bool.not_eq_true]
        intro h
        simp only [Bool.and_eq_true, decide_eq_true_eq] at h
        rw [h.1] at hd
        simp at hd
        omega
      rw [this]
      exact endI 1 _ _ 2 (by simp only [go_sem])
    · have : (entsOk tail epoch && decide (trim ≤ 2147483647 - tail.length)) = true := by
        simp at hd
        simp [hd]
      rw [this]
      refine V_sound ?_
      simp only [go_sem]
      exact endI 0 _ _ 2 (by simp only [go_sem])
end Go.Proofs.Ytcmkhlfjcdchmaa.A
end
section
namespace Go.Proofs.Ytcmkhlfjcdchmaa.A
open Go Go.Proofs Go.Proofs.YtcmkhlfjcdchmaaAbs
def endL (l : Lg) : Int := if lgOk l = true then l.trim + l.tail.length else 0
structure lgP (l : Lg) : Prop where
  base : shOk l.base = true
  t0 : 0 ≤ l.trim
  e0 : 0 ≤ l.epoch
  e1 : l.epoch ≤ 2147483647
  te : l.trim = 0 ↔ l.epoch = 0
  ents : entsOk l.tail l.epoch = true
  fit : l.trim + l.tail.length ≤ 2147483647
theorem lgOk_iff (l : Lg) : lgOk l = true ↔ lgP l := by
  simp only [lgOk, Bool.and_eq_true, decide_eq_true_eq, beq_iff_eq, decide_eq_decide]
  constructor
  · rintro ⟨⟨⟨⟨⟨⟨⟨h1, h2⟩, h3⟩, h4⟩, h5⟩, h6⟩, h7⟩, h8⟩
    exact ⟨h1, h2, h4, h5, h6, h7, by omega⟩
  · rintro ⟨h1, h2, h3, h4, h5, h6, h7⟩
    exact ⟨⟨⟨⟨⟨⟨⟨h1, h2⟩, by omega⟩, h3⟩, h4⟩, h5⟩, h6⟩, by omega⟩
theorem ents_len {l : List Ent} {ep : Int} (h : entsOk l ep = true) : l.length ≤ 32 := by
  unfold entsOk at h
  exact of_decide_eq_true (Bool.and_eq_true_iff.1 h).1
set_option maxRecDepth 20000 in
theorem pEnd_rc (l : Lg) (hz : zLg l) (M : List Blk) : CallR Try.prog M n_pglog_End [lgA l] (.i (endL l)) M := by
  refine callPG F_pglog_End (Nat.le_of_ble_eq_true rfl) (by simp only [go_sem]) ?_ M
  refine run_seqV ?_
  simp only [go_sem]
  refine run_seqV ?_
  simp only [go_sem]
  refine call0 (pCheck_rc l hz) ?_
  simp only [go_sem]
  rw [ifne, endL]
  cases hok : lgOk l with
  | false =>
    simp only [go_sem]
    exact endI 0 _ _ 2 (by simp only [go_sem])
  | true =>
    have h := (lgOk_iff l).1 hok
    have h1 := h.t0
    have h2 := h.fit
    simp only [go_sem]
    refine V_sound ?_
    simp only [go_sem]
    rw [w64 (by omega) (by omega)]
    exact endI _ _ _ 2 (by simp only [go_sem])
/-- The epoch ahead of a place that is there. -/
def befL (l : Lg) (at_ : Int) : Int := epAt l.tail l.epoch (at_ - l.trim).toNat
set_option maxRecDepth 20000 in
theorem pbefore_rc (l : Lg) (at_ : Int) (h0 : 0 ≤ l.trim) (h1 : l.trim ≤ at_) (h2 : at_ ≤ l.trim + l.tail.length) (h3 : l.trim + l.tail.length ≤ 2147483647) (M : List Blk) : CallR Try.prog M n_pglog_before [lgA l, .i at_] (.i (befL l at_)) M := by
  refine callPG F_pglog_before (Nat.le_of_ble_eq_true rfl) (by simp only [go_sem]) ?_ M
  refine run_seqV ?_
  simp only [go_sem]
  refine run_seqV ?_
  simp only [go_sem]
  refine ⟨fun hc => ?_, fun hc => ?_⟩
  · have : befL l at_ = l.epoch := by rw [befL, epAt, if_pos (by omega)]
    rw [this]
    exact endI _ _ _ 4 (by simp only [go_sem])
  · refine V_sound ?_
    simp only [go_sem]
    rw [w64 (n := at_ - l.trim) (by omega) (by omega), w64 (n := at_ - l.trim - 1) (by omega) (by omega)]
    have : befL l at_ = (l.tail.getD (at_ - l.trim - 1).toNat default).epoch := by
      rw [befL, epAt, if_neg (by omega)]
      congr 2
      omega
    rw [this]
    refine ⟨by omega, ?_⟩
    exact endI _ _ _ 4 (by simp only [go_sem])
def lastL (l : Lg) : Int := if lgOk l = true then epAt l.tail l.epoch l.tail.length else 0
set_option maxRecDepth 20000 in
theorem pLast_rc (l : Lg) (hz : zLg l) (M : List Blk) : CallR Try.prog M n_pglog_Last [lgA l] (.i (lastL l)) M := by
  refine callPG F_pglog_Last (Nat.le_of_ble_eq_true rfl) (by simp only [go_sem]) ?_ M
  refine run_seqV ?_
  simp only [go_sem]
  refine run_seqV ?_
  simp only [go_sem]
  refine call0 (pCheck_rc l hz) ?_
  simp only [go_sem]
  rw [ifne, lastL]
  have hE := fun M => pEnd_rc l hz M
  unfold endL at hE
  cases hok : lgOk l with
  | false =>
    simp only [go_sem]
    exact endI 0 _ _ 2 (by simp only [go_sem])
  | true =>
    have h := (lgOk_iff l).1 hok
    rw [hok, if_pos rfl] at hE
    simp only [go_sem]
    refine run_seqV ?_
    simp only [go_sem]
    have hb := fun M => pbefore_rc l (l.trim + l.tail.length) h.t0 (by omega) (Int.le_refl _) h.fit M
    rw [befL, show (l.trim + (l.tail.length : Int) - l.trim).toNat = l.tail.length by omega] at hb
    refine call0 hE ?_
    simp only [go_sem]
    refine call0 hb ?_
    simp only [go_sem]
    exact run_ret (endI _ _ _ 2 (by simp only [go_sem]))
@[go_sem] def intC (x : Int) (_ : Nat) : CV := .v (.int .i64 x)
abbrev intsL (l : List Int) : Pt := immP 1 intC l
abbrev intsR (t : Nat) (v : Nat) (l : List Int) (f : Bool) : Blk := .rows t 1 v (rowsL 1 intC l) f
theorem int_row (l : List Int) (x : Int) : rowsL 1 intC l ++ [[AV.c (CV.v (Value.int IntKind.i64 x))]] = rowsL 1 intC (l ++ [x]) := rowsL_app1 l x
def epsL (l : List Ent) : List Int := l.map fun e => e.epoch
theorem epsL_take (l : List Ent) {k : Nat} (hk : k < l.length) : epsL (l.take (k + 1)) = epsL (l.take k) ++ [(l.getD k default).epoch] := by
  unfold epsL
  rw [take_succ_getD default hk, List.map_append]
  rfl
end Go.Proofs.Ytcmkhlfjcdchmaa.A
end
section
namespace Go.Proofs.Ytcmkhlfjcdchmaa.A
open Go Go.Proofs Go.Proofs.YtcmkhlfjcdchmaaAbs
def epochsL (l : Lg) : List Int := if lgOk l = true then epsL l.tail else []
theorem epsL_len (l : List Ent) : (epsL l).length = l.length := List.length_map ..
theorem end_ints {n : Nat} (ws : List Int) (e : Nat → SV) (X : List Blk) (v : Nat) (f : Bool) (r b : Nat) (h4 : e r = .p (.one (.arr 1 b v 0 ws.length))) (hX : X[b]? = some (intsR 3 v ws f)) : FinK n 0 [.t r] (.p (intsL ws)) [] .ret ⟨e, X⟩ := by
  refine finQ (.inr rfl) (gh_freeze (b := b) (l := rowsL 1 intC ws) hX (rowsL_closed ws)) (qs := [.one (.c (.imm 1 ws.length fun i j => toC (((rowsL 1 intC ws).getD (0 + i) []).getD j default)))]) (cnd := True) ?_ trivial (subS_p (subP_one (frz_sub ws))) (by simp only [go_sem])
  simp only [go_sem, h4, Nat.zero_add]
set_option maxRecDepth 20000 in
theorem pEpochs_rc (l : Lg) (hz : zLg l) (M : List Blk) : CallR Try.prog M n_pglog_Epochs [lgA l] (.p (intsL (epochsL l))) M := by
  refine callPG F_pglog_Epochs (Nat.le_of_ble_eq_true rfl) (by simp only [go_sem]) ?_ M
  refine run_seqV ?_
  simp only [go_sem]
  refine run_seqV ?_
  simp only [go_sem]
  refine run_seqV ?_
  simp only [go_sem]
  refine call0 (pCheck_rc l hz) ?_
  simp only [go_sem]
  rw [ifne, epochsL]
  obtain ⟨hb, hl, hs⟩ := hz
  cases hok : lgOk l with
  | false =>
    simp only [go_sem]
    exact fin0 (.inr rfl) (qs := [.one (.c (.v (.slice none 0 0)))]) (cnd := True) (by simp only [go_sem]) trivial (subS_p (subP_one (nil_sub (sz := 1) (c := intC)))) (by simp only [go_sem])
  | true =>
    simp only [go_sem]
    refine run_seqV ?_
    simp only [go_sem]
    refine run_gh (gh_born 3 3 1 (by simp only [go_sem])) ?_
    simp only [List.cons_append, List.nil_append, List.length_cons, List.length_nil, Nat.zero_add]
    refine R_loop (ι := Nat × Nat × Bool) (J := fun p => p.1 ≤ l.tail.length)
      (env := fun p => [(3, .p (.one (.arr 1 1 p.2.1 0 (epsL (l.tail.take p.1)).length))), (10, .p (entL l.tail)), (11, .i l.tail.length), (12, .i p.1)])
      (mem := fun p => [lgB l, intsR 3 p.2.1 (epsL (l.tail.take p.1)) p.2.2])
      (μ := fun p => l.tail.length - p.1) (0, 0, true) (Nat.zero_le _) ⟨[], rfl, Nat.zero_le _, ?_, ?_⟩ ?_
    · simp only [go_sem, List.take_zero, epsL, List.map_nil, List.length_nil]
    · simp only [go_sem, ltB]
      exact fun r hr => (rowsL_row r hr).2 _
    rintro ⟨k, v, f⟩ hk
    simp only at hk
    refine run_seqV ?_
    simp only [go_sem]
    refine run_seqV ?_
    simp only [go_sem]
    refine ⟨fun h1 => ?_, fun h1 => ?_⟩
    · have e3 : IntKind.i64.wrap ((k : Int) + 1) = ((k + 1 : Nat) : Int) := w64s (by omega)
      have hst := epsL_take l.tail h1
      have hle : (epsL (l.tail.take k)).length ≤ 1000 := by rw [epsL_len, List.length_take]; omega
      generalize epsL (l.tail.take k) = ws at hst hle
      refine V_sound ?_
      simp only [go_sem, int_row, rowsL_len, e3]
      refine ⟨⟨by omega, h1⟩, by omega, (k + 1, v + 1, false), h1, by simp only []; omega, [_, _], by simp only [hst]; rfl, Nat.zero_le _, ?_, ?_⟩
      · simp only [go_sem, hst, List.length_append, List.length_cons, List.length_nil, Nat.zero_add]
      · simp only [go_sem, ltB]
        exact fun r hr => (rowsL_row r hr).2 _
    · have hkl : k = l.tail.length := by omega
      subst hkl
      rw [List.take_length]
      refine V_sound ?_
      simp only [go_sem]
      exact end_ints (epsL l.tail) _ _ v f 2 1 (by simp only [go_sem]) rfl
end Go.Proofs.Ytcmkhlfjcdchmaa.A
end
section
namespace Go.Proofs.Ytcmkhlfjcdchmaa.A
open Go Go.Proofs Go.Proofs.YtcmkhlfjcdchmaaAbs
set_option maxRecDepth 20000 in
theorem copied_rc (s : Shf) (hz : zShf s) (M : List Blk) : CallR Try.prog M n_pglog_copied [shfA s] (.p (shfA s)) M := by
  refine callPG F_pglog_copied (Nat.le_of_ble_eq_true rfl) (by simp only [go_sem]) ?_ M
  obtain ⟨lines, dones, floor⟩ := s
  obtain ⟨hll, hdl, hser, hsmp⟩ := hz
  simp only at hll hdl hser hsmp ⊢
  refine run_seqV ?_
  simp only [go_sem]
  refine run_regX 1 ?_
  simp only [go_sem, List.replicate_succ, List.replicate_zero]
  refine callxf 2 [2] [(2, lnR 1 lines false)] (by simp) (fun N hN => cloneAt F_slices_Clone_api_Line_api_Line lines (by omega) N (hN 2 (by simp))) ?_
  simp only [apL, go_sem]
  refine callx0 (clone_rc (c := Dn.c) F_slices_Clone_api_Done_api_Done dones (by omega)) ?_
  simp only [apL, go_sem]
  refine ⟨rfl, ?_⟩
  refine run_seqV ?_
  simp only [go_sem]
  refine R_loop (ι := Nat) (J := fun k => k ≤ lines.length)
    (env := fun k => [(1, .p (.one (.ptr 0 0 0 0))), (2, .p (.one (.ptr 1 0 0 0))), (14, .p (.one (.arr 2 2 1 0 lines.length))), (15, .i lines.length), (16, .i k)])
    (mem := fun _ => [.rows 48 3 0 [[.arr 2 2 1 0 lines.length, .c (immL 5 Dn.c dones), .c (.v (.int .i64 floor))]] true, zSh, lnR 1 lines false])
    (μ := fun k => lines.length - k) 0 (Nat.zero_le _) ⟨[], rfl, Nat.zero_le _, ?_, ?_⟩ ?_
  · simp only [go_sem]
  · simp only [go_sem, ltB]
    exact fun r hr => (rowsL_row r hr).2 _
  rintro k hk
  refine run_seqV ?_
  simp only [go_sem]
  refine run_seqV ?_
  simp only [go_sem]
  refine ⟨fun h1 => ?_, fun h1 => ?_⟩
  · have hrow := rowsL_getD (sz := 2) (c := Lin.c) h1
    have hset := rowsL_set (sz := 2) (c := Lin.c) lines k (lines.getD k default)
    have hsame : lines.set k (lines.getD k default) = lines := set_self (getD_some h1)
    rw [hsame] at hset
    have hs1 := hsmp k h1
    refine run_seq ?_
    refine run_block ?_
    refine run_seqV ?_
    simp only [go_sem, hrow]
    simp only [go_sem] at hset
    refine ⟨by omega, h1, ?_⟩
    refine V_sound ?_
    simp only [go_sem]
    refine call0 (clone_rc (c := Smp.c) F_slices_Clone_api_Sample_api_Sample (lines.getD k default).smps (by omega)) ?_
    simp only [go_sem, hrow, hset]
    refine ⟨by omega, h1, h1, V_sound ?_⟩
    simp only [go_sem, w64s (show k < 9223372036854775807 by omega)]
    refine ⟨k + 1, h1, by omega, [_], rfl, Nat.zero_le _, ?_, ?_⟩
    · simp only [go_sem]
    · simp only [go_sem, ltB]
      exact fun r hr => (rowsL_row r hr).2 _
  · refine V_sound ?_
    simp only [go_sem]
    refine finQ (.inr rfl) (gh_freeze (b := 2) (l := rowsL 2 Lin.c lines) rfl (rowsL_closed lines)) (qs := [.agg [.c (.imm 2 lines.length fun i j => toC (((rowsL 2 Lin.c lines).getD (0 + i) []).getD j default)), .c (immL 5 Dn.c dones), .c (.v (.int .i64 floor))]]) (cnd := True) ?_ trivial (subS_p (subP_aggL ⟨frz_sub _, SubA.refl _, SubA.refl _, trivial⟩)) (by simp only [go_sem])
    simp only [go_sem, Nat.zero_add]
/-- A log of its own memory, told as nobody's. -/
abbrev enR (v : Nat) (l : List Ent) (f : Bool) : Blk := .rows 27 10 v (rowsL 10 Ent.c l) f
/-- A log told in memory of its own: its tail in the block b. -/
abbrev lgO (l : Lg) (b v n : Nat) : List AV := [.c (immL 2 Lin.c l.base.lines), .c (immL 5 Dn.c l.base.dones), .c (.v (.int .i64 l.base.floor)), .c (.v (.int .i64 l.trim)), .c (.v (.int .i64 l.epoch)), .arr 10 b v 0 n]
set_option maxRecDepth 20000 in
theorem pownB_rc (l : Lg) (hz : zLg l) {M : List Blk} (hMB : ∀ x ∈ M, ltB M.length x) : CallR Try.prog M n_pglog_own [lgA l] (.p (.agg (lgO l (M.length + 2) 1 l.tail.length))) (M ++ [.dead, .rows 51 6 0 [lgO l (M.length + 2) 1 l.tail.length] true, enR 1 l.tail false]) := by
  refine callR_intro F_pglog_own (by simp) ?_
  obtain ⟨hb, hl, hs⟩ := hz
  refine run_seqV ?_
  simp only [go_sem, mget, mget0, mset, mset0, List.append_assoc, List.length_append, List.length_cons, List.length_nil, Nat.zero_add]
  refine run_regX 1 ?_
  simp only [go_sem, mget, mget0, mset, mset0, List.append_assoc, List.length_append, List.length_cons, List.length_nil, Nat.zero_add, List.replicate_succ, List.replicate_zero]
  refine callx0 (copied_rc l.base hb) ?_
  simp only [go_sem, mget, mget0, mset, mset0, Nat.add_assoc, Nat.reduceAdd]
  refine callxn (by simp only [go_sem, mget]) (fun N hN => cloneAt F_slices_Clone_api_Entry_api_Entry l.tail (by omega) N hN) ?_
  simp only [go_sem, mget, mget0, mset, mset0, Nat.add_assoc, Nat.reduceAdd]
  refine ⟨pairs_un M.length ?_ ?_, ?_⟩
  · simp only [unshift, List.map_cons, List.map_nil, Nat.add_sub_cancel_left, Nat.sub_self]
    rfl
  · simp
  refine V_sound ?_
  simp only [go_sem, mget, mget0, mset, mset0]
  refine fin_m (.inr rfl) (gh_kill M.length) [] (qs := [.agg (lgO l (M.length + 2) 1 l.tail.length)]) (cnd := True) ?_ trivial ?_ (SubS.refl _) ?_ ?_ ?_
  · simp only [go_sem, mget, mget0, mset, mset0]
  · simp only [mset, mset0, go_sem]
  · rw [List.length_append]; omega
  · simp only [go_sem, List.length_append, List.length_cons, List.length_nil]
  · refine ltM_app hMB ?_
    intro x hx
    simp only [List.mem_cons, List.not_mem_nil, or_false] at hx
    rcases hx with rfl | rfl | rfl
    · trivial
    · simp only [go_sem, ltB, List.length_cons, List.length_nil]
    · exact rowsL_ltB _ _ _ _ _
end Go.Proofs.Ytcmkhlfjcdchmaa.A
end
section
namespace Go.Proofs.Ytcmkhlfjcdchmaa.A
open Go Go.Proofs Go.Proofs.YtcmkhlfjcdchmaaAbs
theorem snap_lg {M : List Blk} {b v : Nat} {f : Bool} {l : Lg} (hb : M[b]? = some (enR v l.tail f)) : SnapP M (.agg (lgO l b v l.tail.length)) (lgA l) := by
  refine ⟨rfl, fun k a a' h h' => ?_⟩
  match k with
  | 0 => injection h with h; injection h' with h'; subst h; subst h'; exact Snap.same _ trivial
  | 1 => injection h with h; injection h' with h'; subst h; subst h'; exact Snap.same _ trivial
  | 2 => injection h with h; injection h' with h'; subst h; subst h'; exact Snap.same _ trivial
  | 3 => injection h with h; injection h' with h'; subst h; subst h'; exact Snap.same _ trivial
  | 4 => injection h with h; injection h' with h'; subst h; subst h'; exact Snap.same _ trivial
  | 5 => injection h with h; injection h' with h'; subst h; subst h'; exact snapL l.tail hb
  | k + 6 => simp at h
def zLog : Lg := ⟨⟨[], [], 0⟩, 0, 0, []⟩
def addS (l : Lg) (e : Ent) : Lg × Int :=
  if lgOk l = false then (zLog, 1)
  else if entOk e = false ∨ e.epoch < lastL l then (l, 1)
  else if l.tail.length = 32 ∨ l.trim + l.tail.length = 2147483647 then (l, 6)
  else (⟨l.base, l.trim, l.epoch, l.tail ++ [e]⟩, 0)
theorem end_zlog {n : Nat} (c : Int) (e : Nat → SV) (X : List Blk) (b : Nat) (t : Nat) (h4 : e 4 = .p (.one (.ptr b 0 0 0))) (h5 : e 5 = .i c) (hX : X[b]? = some (.rows t 6 0 [[.c (.v (.slice none 0 0)), .c (.v (.slice none 0 0)), .c (.v (.int .i64 0)), .c (.v (.int .i64 0)), .c (.v (.int .i64 0)), .c (.v (.slice none 0 0))]] true)) : FinK n 0 [.l true 6 4, .t 5] (.tup [lgA zLog, .i c]) [] .ret ⟨e, X⟩ := by
  refine fin0 (.inr rfl) (qs := [.agg [.c (.v (.slice none 0 0)), .c (.v (.slice none 0 0)), .c (.v (.int .i64 0)), .c (.v (.int .i64 0)), .c (.v (.int .i64 0)), .c (.v (.slice none 0 0))], .i c]) (cnd := True) ?_ trivial (subS_tupL ⟨subP_aggL ⟨nil_sub (α := Lin), nil_sub (α := Dn), SubA.refl _, SubA.refl _, SubA.refl _, nil_sub (α := Ent), trivial⟩, SubP.refl _, trivial⟩) (by simp only [go_sem])
  simp only [go_sem, h4, h5, hX]
theorem end_lgO {n : Nat} (l : Lg) (c : Int) (e : Nat → SV) (X : List Blk) (b t d v : Nat) (f : Bool) (h4 : e 4 = .p (.one (.ptr b 0 0 0))) (h5 : e 5 = .i c) (hbd : d ≠ b) (hX : X[b]? = some (.rows t 6 0 [lgO l d v l.tail.length] true)) (hd : X[d]? = some (enR v l.tail f)) : FinK n 0 [.l true 6 4, .t 5] (.tup [lgA l, .i c]) [] .ret ⟨e, X⟩ := by
  refine finQ (.inr rfl) (gh_freeze (b := d) (l := rowsL 10 Ent.c l.tail) hd (rowsL_closed l.tail)) (qs := [.agg [.c (immL 2 Lin.c l.base.lines), .c (immL 5 Dn.c l.base.dones), .c (.v (.int .i64 l.base.floor)), .c (.v (.int .i64 l.trim)), .c (.v (.int .i64 l.epoch)), .c (.imm 10 l.tail.length fun i j => toC (((rowsL 10 Ent.c l.tail).getD (0 + i) []).getD j default))], .i c]) (cnd := True) ?_ trivial (subS_tupL ⟨subP_aggL ⟨SubA.refl _, SubA.refl _, SubA.refl _, SubA.refl _, SubA.refl _, frz_sub _, trivial⟩, SubP.refl _, trivial⟩) (by simp only [go_sem])
  have h6 : ((X.map (frzB d v (rowsL 10 Ent.c l.tail))).set d .dead)[b]? = some (frzB d v (rowsL 10 Ent.c l.tail) (.rows t 6 0 [lgO l d v l.tail.length] true)) := by
    rw [List.getElem?_set, if_neg hbd, List.getElem?_map, hX]
    rfl
  simp only [go_sem, h4, h5, eq_false (Ne.symm hbd), false_and, if_false, h6]
  trace_state
set_option maxRecDepth 20000 in
theorem pAdd_rc (l : Lg) (hz : zLg l) (en : Ent) (he : en.op.ser.size ≤ 2000) (M : List Blk) : CallR Try.prog M n_pglog_Add [lgA l, entA en] (.tup [lgA (addS l en).1, .i (addS l en).2]) M := by
  refine callPG F_pglog_Add (Nat.le_of_ble_eq_true rfl) (by simp only [go_sem]) ?_ M
  have hown := fun (A B C : Blk) (h : ∀ x ∈ [A, B, C], ltB 3 x) => pownB_rc l hz (M := [A, B, C]) h
  have hE := fun M => pEnd_rc l hz M
  have hL := fun M => pLast_rc l hz M
  have hC := fun M => CheckEntry_rc en he M
  obtain ⟨hb, hl, hs⟩ := id hz
  unfold addS
  refine run_seqV ?_
  simp only [go_sem]
  refine run_seqV ?_
  simp only [go_sem]
  refine call0 (pCheck_rc l hz) ?_
  simp only [go_sem]
  rw [ifne]
  cases hok : lgOk l with
  | false =>
    simp only [go_sem]
    exact end_zlog 1 _ _ 2 _ (by simp only [go_sem]) (by simp only [go_sem]) rfl
  | true =>
    simp only [go_sem]
    refine run_seqV ?_
    simp only [go_sem]
    refine call1 (hown _ _ _ ?_) (by simp only [go_sem]) (fun h => Bool.noConfusion h) ?_
    · simp only [go_sem, ltB]
    simp only [go_sem, List.length_cons, List.length_nil, Nat.zero_add, Nat.reduceAdd]
    have hEn : endL l = l.trim + l.tail.length := by rw [endL, hok, if_pos rfl]
    rw [hEn] at hE
    generalize lastL l = la at hL ⊢
    obtain ⟨epoch, client, id, op⟩ := en
    refine run_seqV ?_
    simp only [go_sem]
    refine call0 hC ?_
    simp only [go_sem]
    refine callLg (fun _ => hL []) (fun _ => ⟨snap_lg (b := 5) (v := 1) (f := false) rfl, trivial⟩) (by simp only [go_sem]) ?_
    simp only [go_sem]
    rw [ifne]
    refine ⟨fun hc => ?_, fun hc => ?_⟩
    · have hc' : entOk ⟨epoch, client, id, op⟩ = false ∨ epoch < la := by
        simp only [Bool.or_eq_true, Bool.not_eq_true', decide_eq_true_eq] at hc
        exact hc
      rw [if_pos hc']
      exact end_lgO l 1 _ _ 2 _ 5 1 false (by simp only [go_sem]) (by simp only [go_sem]) (by decide) rfl rfl
    · have hc' : ¬ (entOk ⟨epoch, client, id, op⟩ = false ∨ epoch < la) := by
        simp only [Bool.or_eq_false_iff, Bool.not_eq_false', decide_eq_false_iff_not] at hc
        rintro (h | h)
        · rw [hc.1] at h; cases h
        · exact hc.2 h
      rw [if_neg hc']
      refine callLg (fun _ => hE []) (fun _ => ⟨snap_lg (b := 5) (v := 1) (f := false) rfl, trivial⟩) (by simp only [go_sem]) ?_
      simp only [go_sem]
      refine ⟨fun hd => ?_, fun hd => ?_⟩
      · have hd' : l.tail.length = 32 ∨ l.trim + l.tail.length = 2147483647 := by
          simp only [Bool.or_eq_true, beq_iff_eq] at hd
          omega
        rw [if_pos hd']
        exact end_lgO l 6 _ _ 2 _ 5 1 false (by simp only [go_sem]) (by simp only [go_sem]) (by decide) rfl rfl
      · have hd' : ¬ (l.tail.length = 32 ∨ l.trim + l.tail.length = 2147483647) := by
          simp only [Bool.or_eq_false_iff, beq_eq_false_iff_ne] at hd
          omega
        rw [if_neg hd']
        have hrow : ∀ x : Ent, rowsL 10 Ent.c l.tail ++ [[AV.c (CV.v (Value.int IntKind.i64 x.epoch)), AV.c (CV.v (Value.int IntKind.i64 x.client)), AV.c (CV.v (Value.int IntKind.i64 x.id)), AV.c (CV.v (Value.int IntKind.i64 x.op.kind)), AV.c (CV.v (Value.string x.op.ser)), AV.c (CV.v (Value.int IntKind.i64 x.op.smp.t)), AV.c (CV.v (Value.int IntKind.i64 x.op.smp.v)), AV.c (CV.v (Value.int IntKind.i64 x.op.frm)), AV.c (CV.v (Value.int IntKind.i64 x.op.to)), AV.c (CV.v (Value.int IntKind.i64 x.op.tot))]] = rowsL 10 Ent.c (l.tail ++ [x]) := fun x => rowsL_app1 l.tail x
        refine V_sound ?_
        simp only [go_sem, rowsL_len]
        have hr := hrow ⟨epoch, client, id, op⟩
        simp only at hr
        rw [hr]
        have hlen : (l.tail ++ [(⟨epoch, client, id, op⟩ : Ent)]).length = l.tail.length + 1 := by simp
        rw [← hlen]
        exact ⟨by omega, end_lgO ⟨l.base, l.trim, l.epoch, l.tail ++ [⟨epoch, client, id, op⟩]⟩ 0 _ _ 2 _ 5 2 false (by simp only [go_sem]) (by simp only [go_sem]) (by decide) rfl rfl⟩
end Go.Proofs.Ytcmkhlfjcdchmaa.A
end
section
namespace Go.Proofs.Ytcmkhlfjcdchmaa.A
open Go Go.Proofs Go.Proofs.YtcmkhlfjcdchmaaAbs
structure Oth where
  trim : Int
  epoch : Int
  eps : List Int
abbrev othA (o : Oth) : Pt := .agg [.c (.v (.int .i64 o.trim)), .c (.v (.int .i64 o.epoch)), .c (immL 1 intC o.eps)]
def befO (o : Oth) (p : Int) : Int × Bool := if p - o.trim = 0 then (o.epoch, decide (0 < p)) else if 0 < p - o.trim ∧ p - o.trim ≤ o.eps.length then (o.eps.getD (p - o.trim - 1).toNat default, true) else (0, false)
theorem endIB {n : Nat} (v : Int) (b : Bool) (e : Nat → SV) (X : List Blk) (r s : Nat) (h4 : e r = .i v) (h5 : e s = .b b) : FinK n 0 [.t r, .t s] (.tup [.i v, .b b]) [] .ret ⟨e, X⟩ := by
  refine fin0 (.inr rfl) (qs := [.one (.c (.v (.int .i64 v))), .one (.c (.v (.bool b)))]) (cnd := True) ?_ trivial (SubS.refl _) (by simp only [go_sem])
  simp only [go_sem, h4, h5]
set_option maxRecDepth 20000 in
theorem before_rc (o : Oth) (p : Int) (h1 : -1000000000000 ≤ o.trim ∧ o.trim ≤ 1000000000000) (h2 : -1000000000000 ≤ p ∧ p ≤ 1000000000000) (M : List Blk) : CallR Try.prog M n_pglog_other_before [othA o, .i p] (.tup [.i (befO o p).1, .b (befO o p).2]) M := by
  refine callPG F_pglog_other_before (Nat.le_of_ble_eq_true rfl) (by simp only [go_sem]) ?_ M
  unfold befO
  refine run_seqV ?_
  simp only [go_sem]
  refine run_seqV ?_
  simp only [go_sem]
  rw [w64 (n := p - o.trim) (by omega) (by omega)]
  refine ⟨fun hc => ?_, fun hc => ?_⟩
  · rw [if_pos (by simpa using hc)]
    exact endIB _ _ _ _ 4 5 (by simp only [go_sem]) (by simp only [go_sem])
  · rw [if_neg (by simpa using hc)]
    refine ⟨fun hd => ?_, fun hd => ?_⟩
    · have hd : 0 < p - o.trim ∧ p - o.trim ≤ o.eps.length := by simpa using hd
      rw [if_pos hd, w64 (n := p - o.trim - 1) (by omega) (by omega)]
      refine ⟨by omega, ?_⟩
      exact endIB _ _ _ _ 4 5 (by simp only [go_sem]) (by simp only [go_sem])
    · rw [if_neg (by simpa using hd)]
      refine V_sound ?_
      simp only [go_sem]
      exact endIB _ _ _ _ 4 5 (by simp only [go_sem]) (by simp only [go_sem])
/-- The first number from lo on, of n, at which f holds. -/
def alkN (f : Int → Bool) (lo : Int) : Nat → Int
  | 0 => lo
  | n + 1 => if f lo = true then lo else alkN f (lo + 1) n
def difO (a b : Oth) (p : Int) : Bool := (befO a (p + 1)).1 != (befO b (p + 1)).1
def loO (a b : Oth) : Int := if a.trim < b.trim then b.trim else a.trim
def hiO (a b : Oth) : Int := if b.trim + b.eps.length < a.trim + a.eps.length then b.trim + b.eps.length else a.trim + a.eps.length
def alikeS (l : Lg) (b : Oth) : Int × Bool :=
  if lgOk l = false ∨ ¬ (0 ≤ b.trim ∧ b.trim ≤ 2147483647) ∨ 32 < b.eps.length then (0, false)
  else
    let a : Oth := ⟨l.trim, l.epoch, epsL l.tail⟩
    if hiO a b < loO a b ∨ ((befO a (loO a b)).2 = true ∧ (befO b (loO a b)).2 = true ∧ (befO a (loO a b)).1 ≠ (befO b (loO a b)).1) then (0, false)
    else (alkN (difO a b) (loO a b) (hiO a b - loO a b).toNat, true)
set_option maxRecDepth 20000 in
set_option maxHeartbeats 4000000 in
theorem Alike_rc (l : Lg) (hz : zLg l) (b : Oth) (hbl : b.eps.length ≤ 140737488355328) (M : List Blk) : CallR Try.prog M n_pglog_Alike [lgA l, .i b.trim, .i b.epoch, intsL b.eps] (.tup [.i (alikeS l b).1, .b (alikeS l b).2]) M := by
  refine callPG F_pglog_Alike (Nat.le_of_ble_eq_true rfl) (by simp only [go_sem]) ?_ M
  have hEp := fun M => pEpochs_rc l hz M
  unfold epochsL at hEp
  unfold alikeS
  refine run_seqV ?_
  simp only [go_sem]
  refine run_seqV ?_
  simp only [go_sem]
  refine call0 (pCheck_rc l hz) ?_
  simp only [go_sem]
  refine callg0 (fun _ => pin_rc b.trim 0 2147483647) ?_
  simp only [go_sem]
  rw [ifne]
  refine ⟨fun hc => ?_, fun hc => ?_⟩
  · rw [if_pos]
    · exact endIB 0 false _ _ 8 9 (by simp only [go_sem]) (by simp only [go_sem])
    · grind
  · have hg : lgOk l = true ∧ (0 ≤ b.trim ∧ b.trim ≤ 2147483647) ∧ b.eps.length ≤ 32 := by grind
    obtain ⟨hok, hbt, hbe⟩ := hg
    clear hc
    have hP := (lgOk_iff l).1 hok
    have p1 := hP.t0
    have p2 := hP.fit
    have p3 := ents_len hP.ents
    rw [hok, if_pos rfl] at hEp
    have hng : ¬ (lgOk l = false ∨ ¬ (0 ≤ b.trim ∧ b.trim ≤ 2147483647) ∨ 32 < b.eps.length) := by
      rintro (h | h | h)
      · rw [hok] at h; exact Bool.noConfusion h
      · exact h hbt
      · omega
    rw [if_neg hng]
    refine run_seqV ?_
    simp only [go_sem]
    refine callx0 hEp ?_
    simp only [go_sem]
    refine ⟨rfl, run_seqV ?_⟩
    simp only [go_sem]
    have hel := epsL_len l.tail
    rw [w64 (n := b.trim + b.eps.length) (by omega) (by omega), w64 (n := l.trim + (epsL l.tail).length) (by omega) (by omega)]
    obtain ⟨A, hA⟩ : ∃ A : Oth, A = ⟨l.trim, l.epoch, epsL l.tail⟩ := ⟨_, rfl⟩
    have hlo : (if l.trim < b.trim then b.trim else l.trim) = loO A b := by rw [hA]; rfl
    have hhi : (if b.trim + b.eps.length < l.trim + (epsL l.tail).length then b.trim + (b.eps.length : Int) else l.trim + (epsL l.tail).length) = hiO A b := by rw [hA]; rfl
    have hlb : 0 ≤ loO A b ∧ loO A b ≤ 2147483647 := by rw [← hlo]; split <;> omega
    have hhb : 0 ≤ hiO A b ∧ hiO A b ≤ 3000000000 := by rw [← hhi]; split <;> omega
    simp only [hlo, hhi, ← hA]
    have hAt : -1000000000000 ≤ A.trim ∧ A.trim ≤ 1000000000000 := by rw [hA]; simp only; omega
    have b1 := fun p (hp : -1000000000000 ≤ p ∧ p ≤ 1000000000000) M => before_rc A p hAt hp M
    have b2 := fun p (hp : -1000000000000 ≤ p ∧ p ≤ 1000000000000) M => before_rc b p (by omega) hp M
    have hAA : (othA A) = .agg [.c (.v (.int .i64 l.trim)), .c (.v (.int .i64 l.epoch)), .c (immL 1 intC (epsL l.tail))] := by rw [hA]
    simp only [hAA] at b1
    refine run_seqV ?_
    simp only [go_sem]
    refine call0 (b1 (loO A b) (by omega)) ?_
    simp only [go_sem]
    refine run_seqV ?_
    simp only [go_sem]
    refine call0 (b2 (loO A b) (by omega)) ?_
    simp only [go_sem]
    refine run_seqV ?_
    simp only [go_sem]
    refine ⟨fun hc => ?_, fun hc => ?_⟩
    · rw [if_pos]
      · exact endIB 0 false _ _ 8 9 (by simp only [go_sem]) (by simp only [go_sem])
      · grind
    · have hc' : ¬ (hiO A b < loO A b ∨ ((befO A (loO A b)).2 = true ∧ (befO b (loO A b)).2 = true ∧ (befO A (loO A b)).1 ≠ (befO b (loO A b)).1)) := by
        intro h
        revert hc
        rcases h with h | ⟨h1, h2, h3⟩
        · simp [h]
        · simp [h1, h2, h3]
      rw [if_neg hc']
      have hle : loO A b ≤ hiO A b := Int.not_lt.1 fun h => hc' (.inl h)
      clear hc hc'
      generalize hL : loO A b = lo at hlb hle ⊢
      generalize hH : hiO A b = hi at hhb hle ⊢
      obtain ⟨n, hn⟩ : ∃ n : Nat, hi = lo + n := ⟨(hi - lo).toNat, by omega⟩
      have hn2 : (hi - lo).toNat = n := by omega
      rw [hn2]
      refine run_seqV ?_
      simp only [go_sem]
      refine R_loop (ι := Nat) (J := fun k => k ≤ n ∧ alkN (difO A b) lo n = alkN (difO A b) (lo + k) (n - k))
        (env := fun k => [(10, .p (.one (.ptr 1 1 0 0))), (11, .p (.one (.ptr 2 1 0 0))), (13, .i hi), (18, .i (lo + k))])
        (mem := fun _ => [lgB l, .rows 76 3 1 [[.c (.v (.int .i64 l.trim)), .c (.v (.int .i64 l.epoch)), .c (immL 1 intC (epsL l.tail))]] true, .rows 76 3 1 [[.c (.v (.int .i64 b.trim)), .c (.v (.int .i64 b.epoch)), .c (immL 1 intC b.eps)]] true])
        (μ := fun k => n - k) 0 ⟨Nat.zero_le _, by simp⟩ ⟨[], rfl, Nat.zero_le _, ?_, ?_⟩ ?_
      · simp only [go_sem]
        omega
      · simp only [go_sem, ltB]
      rintro k ⟨hk, hal⟩
      refine run_seqV ?_
      simp only [go_sem]
      refine ⟨fun h1 => ?_, fun h1 => ?_⟩
      · have hkn : k < n := by omega
        refine run_seq ?_
        refine run_block ?_
        refine run_seqV ?_
        simp only [go_sem]
        rw [w64 (n := lo + k + 1) (by omega) (by omega)]
        refine call0 (b1 (lo + k + 1) (by omega)) ?_
        simp only [go_sem]
        refine run_seqV ?_
        simp only [go_sem]
        rw [w64 (n := lo + k + 1) (by omega) (by omega)]
        refine call0 (b2 (lo + k + 1) (by omega)) ?_
        simp only [go_sem]
        refine V_sound ?_
        simp only [go_sem]
        rw [show n - k = (n - k - 1) + 1 by omega, alkN] at hal
        refine ⟨fun hd => ?_, fun hd => ?_⟩
        · have hd : difO A b (lo + k) = true := by
            unfold difO
            simpa using hd
          rw [if_pos hd] at hal
          rw [hal]
          exact endIB _ _ _ _ 8 9 (by simp only [go_sem]) (by simp only [go_sem])
        · have hd : ¬ difO A b (lo + k) = true := by
            unfold difO
            simpa using hd
          rw [if_neg hd] at hal
          refine V_sound ?_
          simp only [go_sem]
          rw [w64 (n := lo + k + 1) (by omega) (by omega)]
          refine ⟨k + 1, ⟨hkn, ?_⟩, by omega, [], rfl, Nat.zero_le _, ?_, ?_⟩
          · rw [hal, show n - k - 1 = n - (k + 1) by omega]
            congr 1
            omega
          · simp only [go_sem]
            omega
          · simp only [go_sem, ltB]
      · have hkn : k = n := by omega
        subst hkn
        rw [Nat.sub_self, alkN] at hal
        refine V_sound ?_
        simp only [go_sem]
        rw [hal, ← hn]
        exact endIB _ _ _ _ 8 9 (by simp only [go_sem]) (by simp only [go_sem])
theorem snapP_same {M : List Blk} {l : List AV} (h : ∀ a ∈ l, ltA 0 a) : SnapP M (.agg l) (.agg l) := by
  refine ⟨rfl, fun k a a' h1 h2 => ?_⟩
  rw [h1] at h2
  injection h2 with h2
  subst h2
  exact Snap.same _ (h _ (List.mem_of_getElem? h1))
theorem snap_lgA {M : List Blk} (l : Lg) : SnapP M (lgA l) (lgA l) := snapP_same fun a ha => by
  simp only [List.mem_cons, List.not_mem_nil, or_false] at ha
  rcases ha with rfl | rfl | rfl | rfl | rfl | rfl <;> trivial
def awE (epoch id : Int) : Ent := ⟨epoch, 1, id, ⟨1, mkS [97], ⟨id, 1⟩, 0, 0, 0⟩⟩
theorem entry_rc (epoch id : Int) (M : List Blk) : CallR Try.prog M n_windroselaw28_entry [.i epoch, .i id] (.p (entA (awE epoch id))) M := by
  refine callPG F_windroselaw28_entry (Nat.le_of_ble_eq_true rfl) (by simp only [go_sem]) ?_ M
  refine V_sound ?_
  simp only [c_windroselaw28_entry, go_sem]
  exact fin0 (.inr rfl) (qs := [entA (awE epoch id)]) (cnd := True) (by simp only [go_sem, awE]; rfl) trivial (SubS.refl _) (by simp only [go_sem])
def awL (t : List Ent) : Lg := ⟨⟨[], [], 0⟩, 0, 0, t⟩
theorem aw28_1 : addS (awL []) (awE 1 1) = (awL [awE 1 1], 0) := by kernel_rfl
theorem aw28_2 : addS (awL [awE 1 1]) (awE 1 2) = (awL [awE 1 1, awE 1 2], 0) := by kernel_rfl
theorem aw28_3 : addS (awL [awE 1 1, awE 1 2]) (awE 2 3) = (awL [awE 1 1, awE 1 2, awE 2 3], 0) := by kernel_rfl
theorem aw28_4 : alikeS (awL [awE 1 1, awE 1 2, awE 2 3]) ⟨0, 0, [1, 3]⟩ = (1, true) := by kernel_rfl
theorem aw28_5 : endL (awL [awE 1 1, awE 1 2, awE 2 3]) = 3 := by kernel_rfl
theorem aw28_6 : lastL (awL [awE 1 1, awE 1 2, awE 2 3]) = 2 := by kernel_rfl
theorem awE_sz (epoch id : Int) : (awE epoch id).op.ser.size ≤ 2000 := (by decide : (mkS [97]).size ≤ 2000)
theorem awL_z {t : List Ent} (h : t.length ≤ 1000) (h2 : ∀ e ∈ t, ∃ a b, e = awE a b) : zLg (awL t) := ⟨shP_z zP (zSz 2000), h, fun e he => by
  obtain ⟨a, b, rfl⟩ := h2 e he
  exact awE_sz a b⟩
set_option maxRecDepth 20000 in
set_option maxHeartbeats 4000000 in
theorem awake28_rc (M : List Blk) : CallR Try.prog M n_windroselaw28_awake [] (.b true) M := by
  refine callPG F_windroselaw28_awake (Nat.le_of_ble_eq_true rfl) (by simp only [go_sem]) ?_ M
  have z0 : zLg (awL []) := awL_z (by decide) (fun e he => by cases he)
  have z1 : zLg (awL [awE 1 1]) := awL_z (by decide) (fun e he => by rw [List.mem_singleton] at he; exact ⟨_, _, he⟩)
  have z2 : zLg (awL [awE 1 1, awE 1 2]) := awL_z (by decide) (fun e he => by
    simp only [List.mem_cons, List.not_mem_nil, or_false] at he
    rcases he with rfl | rfl <;> exact ⟨_, _, rfl⟩)
  have z3 : zLg (awL [awE 1 1, awE 1 2, awE 2 3]) := awL_z (by decide) (fun e he => by
    simp only [List.mem_cons, List.not_mem_nil, or_false] at he
    rcases he with rfl | rfl | rfl <;> exact ⟨_, _, rfl⟩)
  have a1 := fun M => pAdd_rc _ z0 (awE 1 1) (awE_sz _ _) M
  have a2 := fun M => pAdd_rc _ z1 (awE 1 2) (awE_sz _ _) M
  have a3 := fun M => pAdd_rc _ z2 (awE 2 3) (awE_sz _ _) M
  have a4 := fun M => Alike_rc _ z3 ⟨0, 0, [1, 3]⟩ (by decide) M
  have a5 := fun M => pEnd_rc _ z3 M
  have a6 := fun M => pLast_rc _ z3 M
  simp only [aw28_1, aw28_2, aw28_3, aw28_4, aw28_5, aw28_6] at a1 a2 a3 a4 a5 a6
  refine run_seqV ?_
  simp only [go_sem]
  refine run_seqV ?_
  simp only [go_sem]
  refine call0 (entry_rc 1 1) ?_
  simp only [go_sem]
  refine callS (a1 _) ⟨subP_aggL ⟨nil_sub (α := Lin), nil_sub (α := Dn), SubA.refl _, SubA.refl _, SubA.refl _, nil_sub (α := Ent), trivial⟩, SubP.refl _, trivial⟩ (fun h => Bool.noConfusion h) ?_
  simp only [go_sem]
  refine run_seqV ?_
  simp only [go_sem]
  refine call0 (entry_rc 1 2) ?_
  simp only [go_sem]
  refine call0 a2 ?_
  simp only [go_sem]
  refine run_seqV ?_
  simp only [go_sem]
  refine call0 (entry_rc 2 3) ?_
  simp only [go_sem]
  refine call0 a3 ?_
  simp only [go_sem]
  refine run_seqV ?_
  simp only [go_sem]
  refine callL (a4 []) ⟨snap_lgA _, Snap.same _ trivial, Snap.same _ trivial, snapL (c := intC) [1, 3] rfl, trivial⟩ (by simp only [go_sem]) ?_
  simp only [go_sem]
  refine run_seqV ?_
  simp only [go_sem]
  refine callg0 (fun _ => a5) ?_
  simp only [go_sem]
  trace_state
  refine callg0 (fun _ => a6) ?_
  simp only [go_sem]
  exact run_ret (endB true _ _ 0 (by simp only [go_sem]; try rfl))
end Go.Proofs.Ytcmkhlfjcdchmaa.A
end
section
namespace Go.Proofs.Ytcmkhlfjcdchmaa.A
open Go Go.Proofs Go.Proofs.YtcmkhlfjcdchmaaAbs
@[go_sem] def strC (x : ByteArray) (_ : Nat) : CV := .v (.string x)
abbrev strsL (l : List ByteArray) : Pt := immP 1 strC l
structure Dat where
  nums : List Int
  texts : List ByteArray
instance : Inhabited Dat := ⟨⟨[], []⟩⟩
abbrev datA (d : Dat) : Pt := .agg [.c (immL 1 intC d.nums), .c (immL 1 strC d.texts)]
abbrev datB (d : Dat) : Blk := .rows 31 2 0 [[.c (immL 1 intC d.nums), .c (immL 1 strC d.texts)]] true
@[go_sem] def Dat.c (x : Dat) : Nat → CV
  | 0 => immL 1 intC x.nums
  | _ => immL 1 strC x.texts
theorem dat_ext {x y : Dat} : x = y ↔ x.nums = y.nums ∧ x.texts = y.texts := by
  cases x; cases y; simp
instance : DecidableEq Dat := fun a b => decidable_of_iff' _ dat_ext
theorem ne_dec {α : Type} [Inhabited α] [DecidableEq α] {l m : List α} {k : Nat} (h : l.getD k default ≠ m.getD k default) : l ≠ m := fun e => h (by rw [e])
set_option maxRecDepth 20000 in
theorem EqI_rc (l m : List Int) (hl : l.length ≤ 140737488355328) (M : List Blk) : CallR Try.prog M n_slices_Equal_int_int [intsL l, intsL m] (.b (decide (l = m))) M := by
  refine callP F_slices_Equal_int_int (Nat.le_of_ble_eq_true rfl) (by simp only [go_sem]) (by simp only [go_sem]) ?_ M
  simp only [c_slices_Equal_int_int, go_sem]
  refine ⟨fun hc => ?_, fun hc => ?_⟩
  · rw [decide_eq_false]
    rintro rfl
    simp at hc
  have hlm : l.length = m.length := by simp at hc; omega
  refine V_loop (ι := Nat) (J := fun k => k ≤ l.length ∧ ∀ i, i < k → l.getD i default = m.getD i default) (env := fun i => [(0, .p (intsL l)), (1, .p (intsL m)), (12, .i l.length), (13, .i i)]) (mem := fun _ => []) (μ := fun k => l.length - k) 0 ⟨Nat.zero_le _, fun j hj => by omega⟩ (into0 (by simp only [go_sem])) ?_
  rintro k ⟨hk, hok⟩
  simp only [go_sem]
  refine ⟨fun h1 => ?_, fun h1 => ?_⟩
  · refine ⟨by omega, by omega, fun hc => ?_, fun hc => ⟨k + 1, ⟨by omega, fun j hj => ?_⟩, by omega, into0 ?_⟩⟩
    · rw [decide_eq_false (ne_dec (k := k) (by simpa using hc))]
    · by_cases e : j = k
      · subst e; simpa using hc
      · exact hok j (by omega)
    · simp only [go_sem, w64s (show k < 9223372036854775807 by omega)]
  · have e : l = m := getD_ext hlm fun i hi => hok i (by omega)
    rw [decide_eq_true e]
set_option maxRecDepth 20000 in
theorem EqT_rc (l m : List ByteArray) (hl : l.length ≤ 140737488355328) (M : List Blk) : CallR Try.prog M n_slices_Equal_string_string [strsL l, strsL m] (.b (decide (l = m))) M := by
  refine callP F_slices_Equal_string_string (Nat.le_of_ble_eq_true rfl) (by simp only [go_sem]) (by simp only [go_sem]) ?_ M
  simp only [c_slices_Equal_string_string, go_sem]
  refine ⟨fun hc => ?_, fun hc => ?_⟩
  · rw [decide_eq_false]
    rintro rfl
    simp at hc
  have hlm : l.length = m.length := by simp at hc; omega
  refine V_loop (ι := Nat) (J := fun k => k ≤ l.length ∧ ∀ i, i < k → l.getD i default = m.getD i default) (env := fun i => [(0, .p (strsL l)), (1, .p (strsL m)), (12, .i l.length), (13, .i i)]) (mem := fun _ => []) (μ := fun k => l.length - k) 0 ⟨Nat.zero_le _, fun j hj => by omega⟩ (into0 (by simp only [go_sem])) ?_
  rintro k ⟨hk, hok⟩
  simp only [go_sem]
  refine ⟨fun h1 => ?_, fun h1 => ?_⟩
  · refine ⟨by omega, by omega, fun hc => ?_, fun hc => ⟨k + 1, ⟨by omega, fun j hj => ?_⟩, by omega, into0 ?_⟩⟩
    · rw [decide_eq_false (ne_dec (k := k) (by simpa using hc))]
    · by_cases e : j = k
      · subst e; simpa using hc
      · exact hok j (by omega)
    · simp only [go_sem, w64s (show k < 9223372036854775807 by omega)]
  · have e : l = m := getD_ext hlm fun i hi => hok i (by omega)
    rw [decide_eq_true e]
set_option maxRecDepth 20000 in
theorem Ints_rc (l m : List Int) (hl : l.length ≤ 140737488355328) (M : List Blk) : CallR Try.prog M n_windroseref02_Ints [intsL l, intsL m] (.b (decide (l = m))) M := by
  refine callP F_windroseref02_Ints (Nat.le_of_ble_eq_true rfl) (by simp only [go_sem]) (by simp only [go_sem]) ?_ M
  simp only [c_windroseref02_Ints, go_sem]
  refine ⟨fun hc => ?_, fun hc => ?_⟩
  · rw [decide_eq_false]
    rintro rfl
    simp at hc
  have hlm : l.length = m.length := by simp at hc; omega
  refine V_loop (ι := Nat) (J := fun k => k ≤ l.length ∧ ∀ i, i < k → l.getD i default = m.getD i default) (env := fun i => [(0, .p (intsL l)), (1, .p (intsL m)), (5, .i i)]) (mem := fun _ => []) (μ := fun k => l.length - k) 0 ⟨Nat.zero_le _, fun j hj => by omega⟩ (into0 (by simp only [go_sem])) ?_
  rintro k ⟨hk, hok⟩
  simp only [go_sem]
  refine ⟨fun h1 => ?_, fun h1 => ?_⟩
  · refine ⟨by omega, by omega, fun hc => ?_, fun hc => ⟨k + 1, ⟨by omega, fun j hj => ?_⟩, by omega, into0 ?_⟩⟩
    · rw [decide_eq_false (ne_dec (k := k) (by simpa using hc))]
    · by_cases e : j = k
      · subst e; simpa using hc
      · exact hok j (by omega)
    · simp only [go_sem, w64s (show k < 9223372036854775807 by omega)]
  · have e : l = m := getD_ext hlm fun i hi => hok i (by omega)
    rw [decide_eq_true e]
set_option maxRecDepth 20000 in
theorem Strings_rc (l m : List ByteArray) (hl : l.length ≤ 140737488355328) (M : List Blk) : CallR Try.prog M n_windroseref02_Strings [strsL l, strsL m] (.b (decide (l = m))) M := by
  refine callP F_windroseref02_Strings (Nat.le_of_ble_eq_true rfl) (by simp only [go_sem]) (by simp only [go_sem]) ?_ M
  simp only [c_windroseref02_Strings, go_sem]
  refine ⟨fun hc => ?_, fun hc => ?_⟩
  · rw [decide_eq_false]
    rintro rfl
    simp at hc
  have hlm : l.length = m.length := by simp at hc; omega
  refine V_loop (ι := Nat) (J := fun k => k ≤ l.length ∧ ∀ i, i < k → l.getD i default = m.getD i default) (env := fun i => [(0, .p (strsL l)), (1, .p (strsL m)), (5, .i i)]) (mem := fun _ => []) (μ := fun k => l.length - k) 0 ⟨Nat.zero_le _, fun j hj => by omega⟩ (into0 (by simp only [go_sem])) ?_
  rintro k ⟨hk, hok⟩
  simp only [go_sem]
  refine ⟨fun h1 => ?_, fun h1 => ?_⟩
  · refine ⟨by omega, by omega, fun hc => ?_, fun hc => ⟨k + 1, ⟨by omega, fun j hj => ?_⟩, by omega, into0 ?_⟩⟩
    · rw [decide_eq_false (ne_dec (k := k) (by simpa using hc))]
    · by_cases e : j = k
      · subst e; simpa using hc
      · exact hok j (by omega)
    · simp only [go_sem, w64s (show k < 9223372036854775807 by omega)]
  · have e : l = m := getD_ext hlm fun i hi => hok i (by omega)
    rw [decide_eq_true e]
structure zDat (d : Dat) : Prop where
  n : d.nums.length ≤ 140737488355328
  t : d.texts.length ≤ 140737488355328
set_option maxRecDepth 20000 in
theorem fSame_rc (a b : Dat) (ha : zDat a) (M : List Blk) : CallR Try.prog M n_frame_Same [datA a, datA b] (.b (decide (a = b))) M := by
  refine callP F_frame_Same (Nat.le_of_ble_eq_true rfl) (by simp only [go_sem]) (by simp only [go_sem]) ?_ M
  simp only [c_frame_Same, go_sem]
  refine call0 (EqI_rc a.nums b.nums ha.n) ?_
  simp only [go_sem]
  refine callg0 (fun _ => EqT_rc a.texts b.texts ha.t) ?_
  simp only [go_sem]
  rw [Bool.eq_iff_iff]
  simp only [Bool.and_eq_true, decide_eq_true_eq, dat_ext]
set_option maxRecDepth 20000 in
theorem rSame02_rc (a b : Dat) (ha : zDat a) (M : List Blk) : CallR Try.prog M n_windroseref02_Same [datA a, datA b] (.b (decide (a = b))) M := by
  refine callP F_windroseref02_Same (Nat.le_of_ble_eq_true rfl) (by simp only [go_sem]) (by simp only [go_sem]) ?_ M
  simp only [c_windroseref02_Same, go_sem]
  refine call0 (Ints_rc a.nums b.nums ha.n) ?_
  simp only [go_sem]
  refine callg0 (fun _ => Strings_rc a.texts b.texts ha.t) ?_
  simp only [go_sem]
  rw [Bool.eq_iff_iff]
  simp only [Bool.and_eq_true, decide_eq_true_eq, dat_ext]
def dataE (e : Ent) : Dat := ⟨[e.epoch, e.client, e.id, e.op.kind, e.op.smp.t, e.op.smp.v, e.op.frm, e.op.to, e.op.tot], [e.op.ser]⟩
abbrev strsR (t v : Nat) (l : List ByteArray) (f : Bool) : Blk := .rows t 1 v (rowsL 1 strC l) f
theorem datE_n (e : Ent) : (dataE e).nums.length = 9 := rfl
theorem datE_t (e : Ent) : (dataE e).texts.length = 1 := rfl
theorem gh_dat {n m : Nat} {e : Nat → SV} {X : List Blk} {d : Dat} {t3 t4 : Nat} (x3 : X[3]? = some (intsR t3 0 d.nums true)) (x4 : X[4]? = some (strsR t4 0 d.texts true)) : Gh n m ⟨e, X⟩ ⟨fun i => frzS 4 0 (rowsL 1 strC d.texts) (frzS 3 0 (rowsL 1 intC d.nums) (e i)), ((((X.map (frzB 3 0 (rowsL 1 intC d.nums))).set 3 .dead).map (frzB 4 0 (rowsL 1 strC d.texts))).set 4 .dead)⟩ := by
  have y4 : ((X.map (frzB 3 0 (rowsL 1 intC d.nums))).set 3 .dead)[4]? = some (strsR t4 0 d.texts true) := by
    rw [List.getElem?_set, if_neg (by decide), List.getElem?_map, x4]
    show some (Blk.rows _ _ _ _ _) = _
    rw [frz_rows]
  exact (gh_freeze (b := 3) (l := rowsL 1 intC d.nums) x3 (rowsL_closed _)).trans (gh_freeze (b := 4) (l := rowsL 1 strC d.texts) y4 (rowsL_closed _))
theorem sub_dat (d : Dat) : SubP (.agg [.c (.imm 1 d.nums.length fun i j => toC (((rowsL 1 intC d.nums).getD (0 + i) []).getD j default)), .c (.imm 1 d.texts.length fun i j => toC (((rowsL 1 strC d.texts).getD (0 + i) []).getD j default))]) (datA d) := subP_aggL ⟨frz_sub _, frz_sub _, trivial⟩
set_option maxRecDepth 20000 in
theorem rData_rc (e : Ent) (M : List Blk) : CallR Try.prog M n_windroseref28_Data [entA e] (.p (datA (dataE e))) M := by
  refine callPG F_windroseref28_Data (Nat.le_of_ble_eq_true rfl) (by simp only [go_sem]) ?_ M
  refine run_seqV ?_
  simp only [go_sem]
  refine run_seqV ?_
  simp only [go_sem]
  refine run_seqV ?_
  simp only [go_sem]
  refine run_ret ?_
  refine finQ (.inr rfl) (gh_dat (d := dataE e) rfl rfl) (qs := [.agg [.c (.imm 1 (dataE e).nums.length fun i j => toC (((rowsL 1 intC (dataE e).nums).getD (0 + i) []).getD j default)), .c (.imm 1 (dataE e).texts.length fun i j => toC (((rowsL 1 strC (dataE e).texts).getD (0 + i) []).getD j default))]]) (cnd := True) ?_ trivial (subS_p (sub_dat _)) (by simp only [go_sem])
  simp only [go_sem, datE_n, datE_t, Nat.le_refl, if_true]
def encS (e : Ent) : Dat × Int := if entOk e = true then (dataE e, 0) else (⟨[], []⟩, 1)
set_option maxRecDepth 20000 in
theorem Encode_rc (e : Ent) (he : e.op.ser.size ≤ 2000) (M : List Blk) : CallR Try.prog M n_pglog_Encode [entA e] (.tup [datA (encS e).1, .i (encS e).2]) M := by
  refine callPG F_pglog_Encode (Nat.le_of_ble_eq_true rfl) (by simp only [go_sem]) ?_ M
  unfold encS
  refine run_seqV ?_
  simp only [go_sem]
  refine run_seqV ?_
  simp only [go_sem]
  have hC := fun M => CheckEntry_rc e he M
  cases hok : entOk e with
  | false =>
    rw [hok] at hC
    refine call0 hC ?_
    simp only [go_sem]
    exact fin0 (.inr rfl) (qs := [.agg [.c (.v (.slice none 0 0)), .c (.v (.slice none 0 0))], .i 1]) (cnd := True) (by simp only [go_sem]) trivial (subS_tupL ⟨subP_aggL ⟨nil_sub (sz := 1) (c := intC), nil_sub (sz := 1) (c := strC), trivial⟩, SubP.refl _, trivial⟩) (by simp only [go_sem])
  | true =>
    rw [hok] at hC
    refine call0 hC ?_
    simp only [go_sem]
    refine run_seqV ?_
    simp only [go_sem]
    refine run_seqV ?_
    simp only [go_sem]
    refine run_ret ?_
    refine finQ (.inr rfl) (gh_dat (d := dataE e) rfl rfl) (qs := [.agg [.c (.imm 1 (dataE e).nums.length fun i j => toC (((rowsL 1 intC (dataE e).nums).getD (0 + i) []).getD j default)), .c (.imm 1 (dataE e).texts.length fun i j => toC (((rowsL 1 strC (dataE e).texts).getD (0 + i) []).getD j default))], .i 0]) (cnd := True) ?_ trivial (subS_tupL ⟨sub_dat _, SubP.refl _, trivial⟩) (by simp only [go_sem])
    simp only [go_sem, datE_n, datE_t, Nat.le_refl, if_true]
end Go.Proofs.Ytcmkhlfjcdchmaa.A
end
section
namespace Go.Proofs.Ytcmkhlfjcdchmaa.A
open Go Go.Proofs Go.Proofs.YtcmkhlfjcdchmaaAbs
def nAt (d : Dat) (i : Nat) : Int := d.nums.getD i default
/-- The entry that data of nine numbers and a text tell. -/
def entD (d : Dat) : Ent := ⟨nAt d 0, nAt d 1, nAt d 2, ⟨nAt d 3, d.texts.getD 0 default, ⟨nAt d 4, nAt d 5⟩, nAt d 6, nAt d 7, nAt d 8⟩⟩
def decS (d : Dat) : Option Ent := if d.nums.length = 9 ∧ d.texts.length = 1 ∧ entOk (entD d) = true ∧ dataE (entD d) = d then some (entD d) else none
def zEnt : Ent := ⟨0, 0, 0, ⟨0, mkS [], ⟨0, 0⟩, 0, 0, 0⟩⟩
theorem endEI {n : Nat} (x : Ent) (v : Int) (e : Nat → SV) (X : List Blk) (b t : Nat) (h2 : e 2 = .p (.one (.ptr b 0 0 0))) (h3 : e 3 = .i v) (hX : X[b]? = some (.rows t 10 0 [entCells x] true)) : FinK n 0 [.l true 10 2, .t 3] (.tup [entA x, .i v]) [] .ret ⟨e, X⟩ := by
  refine fin0 (.inr rfl) (qs := [entA x, .i v]) (cnd := True) ?_ trivial (SubS.refl _) (by simp only [go_sem])
  simp only [go_sem, h2, h3, hX]
  rfl
theorem endEB {n : Nat} (x : Ent) (v : Bool) (e : Nat → SV) (X : List Blk) (b t : Nat) (h2 : e 2 = .p (.one (.ptr b 0 0 0))) (h3 : e 3 = .b v) (hX : X[b]? = some (.rows t 10 0 [entCells x] true)) : FinK n 0 [.l true 10 2, .t 3] (.tup [entA x, .b v]) [] .ret ⟨e, X⟩ := by
  refine fin0 (.inr rfl) (qs := [entA x, .b v]) (cnd := True) ?_ trivial (SubS.refl _) (by simp only [go_sem])
  simp only [go_sem, h2, h3, hX]
  rfl
set_option maxRecDepth 20000 in
set_option maxHeartbeats 4000000 in
theorem Decode_rc (d : Dat) (hd : zDat d) (hs : ∀ i, i < d.texts.length → (d.texts.getD i default).size ≤ 2000) (M : List Blk) : CallR Try.prog M n_pglog_Decode [datA d] (.tup [entA ((decS d).getD zEnt), .i (if (decS d).isSome then 0 else 2)]) M := by
  refine callPG F_pglog_Decode (Nat.le_of_ble_eq_true rfl) (by simp only [go_sem]) ?_ M
  refine run_seqV ?_
  simp only [go_sem]
  refine run_seqV ?_
  simp only [go_sem]
  refine run_seqV ?_
  simp only [go_sem]
  refine ⟨fun hc => ?_, fun hc => ?_⟩
  · have : decS d = none := by
      rw [decS, if_neg]
      rintro ⟨h1, h2, _⟩
      rw [h1, h2] at hc
      simp at hc
    rw [this]
    exact endEI zEnt 2 _ _ 1 _ (by simp only [go_sem]) (by simp only [go_sem]) rfl
  have h9 : d.nums.length = 9 ∧ d.texts.length = 1 := by
    simp at hc
    omega
  obtain ⟨h9, h1⟩ := h9
  clear hc
  refine run_seqV ?_
  simp only [go_sem]
  have hen := Encode_rc (entD d) (hs 0 (by omega))
  refine ⟨by omega, by omega, by omega, by omega, by omega, by omega, by omega, rfl, run_seqV ?_⟩
  simp only [go_sem]
  refine ⟨by omega, by omega, by omega, rfl, run_seqV ?_⟩
  simp only [go_sem]
  have zE : zDat (dataE (entD d)) := ⟨by rw [datE_n]; decide, by rw [datE_t]; decide⟩
  have fS := fun M => fSame_rc (dataE (entD d)) d zE M
  unfold encS at hen
  have hdec : decS d = if entOk (entD d) = true ∧ dataE (entD d) = d then some (entD d) else none := by
    unfold decS
    simp only [h9, h1, true_and]
  rw [hdec]
  cases hok : entOk (entD d) with
  | false =>
    rw [hok] at hen
    refine call0 hen ?_
    simp only [go_sem]
    refine callg0 (r := .b false) (fun h => Bool.noConfusion h) ?_
    simp only [go_sem]
    rw [if_neg (by simp)]
    exact endEI zEnt 2 _ _ 1 _ (by simp only [go_sem]) (by simp only [go_sem]) rfl
  | true =>
    rw [hok] at hen
    refine call0 hen ?_
    simp only [go_sem]
    refine callg0 (fun _ => fS) ?_
    simp only [go_sem]
    refine ⟨fun hq => ?_, fun hq => ?_⟩
    · have hq : ¬ dataE (entD d) = d := by simpa using hq
      rw [if_neg (by simp [hq])]
      exact endEI zEnt 2 _ _ 1 _ (by simp only [go_sem]) (by simp only [go_sem]) rfl
    · have hq : dataE (entD d) = d := by simpa using hq
      rw [if_pos (by simp [hq])]
      refine V_sound ?_
      simp only [go_sem]
      exact endEI (entD d) 0 _ _ 1 _ (by simp only [go_sem]) (by simp only [go_sem]) rfl
set_option maxRecDepth 20000 in
set_option maxHeartbeats 4000000 in
theorem rDecode_rc (d : Dat) (hd : zDat d) (hs : ∀ i, i < d.texts.length → (d.texts.getD i default).size ≤ 2000) (M : List Blk) : CallR Try.prog M n_windroseref28_Decode [datA d] (.tup [entA ((decS d).getD zEnt), .b (decS d).isSome]) M := by
  refine callPG F_windroseref28_Decode (Nat.le_of_ble_eq_true rfl) (by simp only [go_sem]) ?_ M
  refine run_seqV ?_
  simp only [go_sem]
  refine run_seqV ?_
  simp only [go_sem]
  refine run_seqV ?_
  simp only [go_sem]
  refine ⟨fun hc => ?_, fun hc => ?_⟩
  · have : decS d = none := by
      rw [decS, if_neg]
      rintro ⟨h1, h2, _⟩
      rw [h1, h2] at hc
      simp at hc
    rw [this]
    exact endEB zEnt false _ _ 1 _ (by simp only [go_sem]) (by simp only [go_sem]) rfl
  have h9 : d.nums.length = 9 ∧ d.texts.length = 1 := by
    simp at hc
    omega
  obtain ⟨h9, h1⟩ := h9
  clear hc
  have hen := rEntry_rc (entD d) (hs 0 (by omega))
  have zE : zDat (dataE (entD d)) := ⟨by rw [datE_n]; decide, by rw [datE_t]; decide⟩
  have fS := fun M => rSame02_rc (dataE (entD d)) d zE M
  have hdec : decS d = if entOk (entD d) = true ∧ dataE (entD d) = d then some (entD d) else none := by
    unfold decS
    simp only [h9, h1, true_and]
  rw [hdec]
  refine run_seqV ?_
  simp only [go_sem]
  refine ⟨by omega, by omega, by omega, rfl, run_seqV ?_⟩
  simp only [go_sem]
  refine ⟨by omega, by omega, by omega, by omega, by omega, by omega, by omega, run_seqV ?_⟩
  simp only [go_sem]
  cases hok : entOk (entD d) with
  | false =>
    rw [hok] at hen
    refine call0 hen ?_
    simp only [go_sem]
    refine callg0 (r := .p (datA default)) (fun h => Bool.noConfusion h) ?_
    simp only [go_sem]
    refine callg0 (r := .b false) (fun h => Bool.noConfusion h) ?_
    simp only [go_sem]
    exact endEB zEnt false _ _ 1 _ (by simp only [go_sem]) (by simp only [go_sem]) rfl
  | true =>
    rw [hok] at hen
    refine call0 hen ?_
    simp only [go_sem]
    refine callg0 (fun _ => rData_rc (entD d)) ?_
    simp only [go_sem]
    refine callg0 (fun _ => fS) ?_
    simp only [go_sem]
    refine ⟨fun hq => ?_, fun hq => ?_⟩
    · have hq : ¬ dataE (entD d) = d := by simpa using hq
      rw [if_neg (by simp [hq])]
      exact endEB zEnt false _ _ 1 _ (by simp only [go_sem]) (by simp only [go_sem]) rfl
    · have hq : dataE (entD d) = d := by simpa using hq
      rw [if_pos (by simp [hq])]
      refine V_sound ?_
      simp only [go_sem]
      exact endEB (entD d) true _ _ 1 _ (by simp only [go_sem]) (by simp only [go_sem]) rfl
end Go.Proofs.Ytcmkhlfjcdchmaa.A
end
section
namespace Go.Proofs.Ytcmkhlfjcdchmaa.A
open Go Go.Proofs Go.Proofs.YtcmkhlfjcdchmaaAbs
theorem entD_dataE (e : Ent) : entD (dataE e) = e := rfl
theorem dec_enc {e : Ent} (h : entOk e = true) : decS (dataE e) = some e := by
  rw [decS, if_pos ⟨rfl, rfl, by rw [entD_dataE]; exact h, by rw [entD_dataE]⟩, entD_dataE]
theorem ent_ext {x y : Ent} : x = y ↔ x.epoch = y.epoch ∧ x.client = y.client ∧ x.id = y.id ∧ x.op = y.op := by
  cases x; cases y; simp
instance : DecidableEq Ent := fun a b => decidable_of_iff' _ ent_ext
theorem ent_eq (x y : Ent) : (x.epoch == y.epoch && (x.client == y.client && (x.id == y.id && (x.op.kind == y.op.kind && (decide (x.op.ser = y.op.ser) && (x.op.smp.t == y.op.smp.t && (x.op.smp.v == y.op.smp.v && (x.op.frm == y.op.frm && (x.op.to == y.op.to && x.op.tot == y.op.tot))))))))) = decide (x = y) := by
  rw [Bool.eq_iff_iff]
  simp only [Bool.and_eq_true, beq_iff_eq, decide_eq_true_eq, ent_ext, opn_ext]
set_option maxRecDepth 20000 in
set_option maxHeartbeats 4000000 in
theorem PglogCodes_rc (e : Ent) (d : Dat) (hd : zDat d) (M : List Blk) : CallR Try.prog M n_windroselaw28_PglogCodes [entA e, datA d] (.b true) M := by
  refine callPG F_windroselaw28_PglogCodes (Nat.le_of_ble_eq_true rfl) (by simp only [go_sem]) ?_ M
  have hB0 : ∀ (e : Nat → SV) (D : List Blk), e 4 = .b true → FinK 123 0 [.t 4] (.b true) [] .ret ⟨e, D⟩ := fun e D h => endB true e D 4 h
  refine run_seqV ?_
  simp only [go_sem]
  refine run_seqV ?_
  simp only [go_sem]
  refine ⟨fun hc => ?_, fun hc => ?_⟩
  · refine call0 awake28_rc ?_
    simp only [go_sem]
    exact hB0 _ _ (by simp only [go_sem])
  have hg : e.op.ser.size ≤ 300 ∧ d.nums.length ≤ 20 ∧ d.texts.length ≤ 3 := by
    simp only [Bool.or_eq_false_iff, decide_eq_false_iff_not] at hc
    omega
  clear hc
  obtain ⟨he, hn, ht⟩ := hg
  refine run_seqV ?_
  simp only [go_sem]
  refine R_loop (ι := Nat) (J := fun k => k ≤ d.texts.length ∧ ∀ i, i < k → (d.texts.getD i default).size ≤ 300)
    (env := fun k => [(2, .p (.one (.ptr 0 0 0 0))), (3, .p (.one (.ptr 1 0 0 0))), (5, .i k)])
    (mem := fun _ => [entB e, datB d])
    (μ := fun k => d.texts.length - k) 0 ⟨Nat.zero_le _, fun i hi => absurd hi (Nat.not_lt_zero _)⟩ ⟨[], rfl, Nat.zero_le _, ?_, ?_⟩ ?_
  · simp only [go_sem]
  · simp only [go_sem, ltB]
  rintro k ⟨hk, hok⟩
  refine run_seqV ?_
  simp only [go_sem]
  refine ⟨fun h1 => ?_, fun h1 => ?_⟩
  · refine run_seq ?_
    refine run_block ?_
    refine V_sound ?_
    simp only [go_sem]
    refine ⟨⟨by omega, h1⟩, fun hc => ?_, fun hc => ?_⟩
    · refine call0 awake28_rc ?_
      simp only [go_sem]
      exact hB0 _ _ (by simp only [go_sem])
    · refine V_sound ?_
      simp only [go_sem, w64s (show k < 9223372036854775807 by omega)]
      refine ⟨k + 1, ⟨h1, fun i hi => ?_⟩, by omega, [], rfl, Nat.zero_le _, ?_, ?_⟩
      · by_cases e : i = k
        · subst e; omega
        · exact hok i (by omega)
      · simp only [go_sem]
      · simp only [go_sem, ltB]
  · have hkl : k = d.texts.length := by omega
    subst hkl
    have hs : ∀ i, i < d.texts.length → (d.texts.getD i default).size ≤ 2000 := fun i hi => by have := hok i hi; omega
    have d1 := fun M => Decode_rc d hd hs M
    have d2 := fun M => rDecode_rc d hd hs M
    have c1 := fun M => CheckEntry_rc e (by omega) M
    have c2 := fun M => rEntry_rc e (by omega) M
    have e1 := fun M => Encode_rc e (by omega) M
    have zE : zDat (dataE e) := ⟨by rw [datE_n]; decide, by rw [datE_t]; decide⟩
    have d3 := fun M => Decode_rc (dataE e) zE (fun i hi => by
      rw [datE_t] at hi
      obtain rfl : i = 0 := by omega
      show e.op.ser.size ≤ 2000
      omega) M
    generalize decS d = D at d1 d2
    unfold encS at e1
    refine run_seqV ?_
    simp only [go_sem]
    refine call0 d1 ?_
    simp only [go_sem]
    refine run_seqV ?_
    simp only [go_sem]
    refine call0 d2 ?_
    simp only [go_sem]
    refine run_seqV ?_
    simp only [go_sem, ent_eq]
    refine ⟨fun h => absurd h (by cases D <;> simp), fun _ => ?_⟩
    generalize D.getD zEnt = x
    cases hoe : entOk e with
    | false =>
      rw [hoe] at c1 c2 e1
      refine run_seqV ?_
      simp only [go_sem]
      refine call0 e1 ?_
      simp only [go_sem]
      refine run_seqV ?_
      simp only [go_sem]
      refine call0 c1 ?_
      simp only [go_sem]
      refine call0 c2 ?_
      simp only [go_sem]
      refine run_seqV ?_
      simp only [go_sem]
      refine call0 c2 ?_
      simp only [go_sem]
      refine callgS (fun _ => rSame02_rc ⟨[], []⟩ ⟨[], []⟩ ⟨Nat.zero_le _, Nat.zero_le _⟩) ⟨SubP.refl _, subP_aggL ⟨nil_sub (sz := 1) (c := intC), nil_sub (sz := 1) (c := strC), trivial⟩, trivial⟩ ?_
      simp only [go_sem]
      refine callg0 (fun _ => awake28_rc) ?_
      simp only [go_sem]
      exact hB0 _ _ (by simp only [go_sem])
    | true =>
      rw [dec_enc hoe] at d3
      simp only [Option.isSome_some, Option.getD_some, if_true] at d3
      rw [hoe] at c1 c2 e1
      refine run_seqV ?_
      simp only [go_sem]
      refine call0 e1 ?_
      simp only [go_sem]
      refine run_seqV ?_
      simp only [go_sem]
      refine call0 c1 ?_
      simp only [go_sem]
      refine call0 c2 ?_
      simp only [go_sem]
      refine run_seqV ?_
      simp only [go_sem]
      refine call0 c2 ?_
      simp only [go_sem]
      refine run_seqV ?_
      simp only [go_sem]
      refine call0 d3 ?_
      simp only [go_sem]
      refine run_seqV ?_
      simp only [go_sem]
      refine callg0 (fun _ => rData_rc e) ?_
      simp only [go_sem]
      refine callg0 (fun _ => rSame02_rc (dataE e) (dataE e) zE) ?_
      simp only [go_sem, ent_eq]
      refine callg0 (fun _ => awake28_rc) ?_
      simp only [go_sem]
      exact run_ret (hB0 _ _ (by simp only [go_sem]))
end Go.Proofs.Ytcmkhlfjcdchmaa.A
end
