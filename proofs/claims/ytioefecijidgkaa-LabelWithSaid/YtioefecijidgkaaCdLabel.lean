/- Functions of the program, as the abstract machine has them. -/
import Derived.Test.YtioefecijidgkaaProg
import Derived.Test.YtioefecijidgkaaAbs14
set_option linter.unusedVariables false
set_option maxRecDepth 100000
namespace Go.Proofs.Ytioefecijidgkaa.A
open Go Go.Proofs.YtioefecijidgkaaAbs

/-- windrose/windroselaw03.light -/
def c_windroselaw03_light : C :=
 (.seq (.reg false [⟨some 1, .box 24 2 (.t 0), none⟩, ⟨some 2, .mv (kb false), none⟩])
 (.seq (.reg false [⟨some 5, .fa 0 (.t 1), none⟩, ⟨some 6, .ld false 1 (.t 5), none⟩, ⟨some 7, .lens (.t 6), none⟩, ⟨some 3, .mv (.t 7), none⟩])
 (.seq (.seq (.reg false [⟨some 4, .mv (ki 0), none⟩])
 (.block 0 (.loop (.seq (.seq (.reg false [⟨some 8, .mv (.t 4), none⟩, ⟨some 9, .fa 1 (.t 1), none⟩, ⟨some 10, .ld false 1 (.t 9), none⟩, ⟨some 11, .len (.t 10), none⟩, ⟨some 12, .bin .lss (.t 8) (.t 11), none⟩, ⟨some 13, .mv (.t 12), none⟩, ⟨some 14, .mv (.t 4), some (13, true)⟩, ⟨some 15, .bin .lss (.t 14) (ki 30), some (13, true)⟩, ⟨some 16, .pick (.t 13) (.t 15) (kb false), none⟩])
 (.cond (.t 16)
 .skip
 (.exit 0)))
 (.seq (.block 1 (.seq (.seq (.reg false [⟨some 19, .mv (.t 3), none⟩, ⟨some 20, .bin .gtr (.t 19) (ki 3000), none⟩, ⟨some 21, .mv (.t 20), none⟩, ⟨some 22, .fa 1 (.t 1), some (21, false)⟩, ⟨some 23, .ld false 1 (.t 22), some (21, false)⟩, ⟨some 24, .mv (.t 4), some (21, false)⟩, ⟨some 25, .ia 2 (.t 23) (.t 24), some (21, false)⟩, ⟨some 26, .fa 0 (.t 25), some (21, false)⟩, ⟨some 27, .ld false 1 (.t 26), some (21, false)⟩, ⟨some 28, .lens (.t 27), some (21, false)⟩, ⟨some 29, .bin .gtr (.t 28) (ki 3000), some (21, false)⟩, ⟨some 30, .pick (.t 21) (kb true) (.t 29), none⟩, ⟨some 31, .mv (.t 30), none⟩, ⟨some 32, .fa 1 (.t 1), some (31, false)⟩, ⟨some 33, .ld false 1 (.t 32), some (31, false)⟩, ⟨some 34, .mv (.t 4), some (31, false)⟩, ⟨some 35, .ia 2 (.t 33) (.t 34), some (31, false)⟩, ⟨some 36, .fa 1 (.t 35), some (31, false)⟩, ⟨some 37, .ld false 1 (.t 36), some (31, false)⟩, ⟨some 38, .lens (.t 37), some (31, false)⟩, ⟨some 39, .bin .gtr (.t 38) (ki 3000), some (31, false)⟩, ⟨some 40, .pick (.t 31) (kb true) (.t 39), none⟩])
 (.cond (.t 40)
 (.seq (.reg false [⟨some 2, .mv (kb false), none⟩])
 .ret)
 .skip))
 (.reg true [⟨some 41, .mv (.t 3), none⟩, ⟨some 42, .fa 1 (.t 1), none⟩, ⟨some 43, .ld false 1 (.t 42), none⟩, ⟨some 44, .mv (.t 4), none⟩, ⟨some 45, .ia 2 (.t 43) (.t 44), none⟩, ⟨some 46, .fa 0 (.t 45), none⟩, ⟨some 47, .ld false 1 (.t 46), none⟩, ⟨some 48, .lens (.t 47), none⟩, ⟨some 49, .bin .add (.t 41) (.t 48), none⟩, ⟨some 50, .fa 1 (.t 1), none⟩, ⟨some 51, .ld false 1 (.t 50), none⟩, ⟨some 52, .mv (.t 4), none⟩, ⟨some 53, .ia 2 (.t 51) (.t 52), none⟩, ⟨some 54, .fa 1 (.t 53), none⟩, ⟨some 55, .ld false 1 (.t 54), none⟩, ⟨some 56, .lens (.t 55), none⟩, ⟨some 57, .bin .add (.t 49) (.t 56), none⟩, ⟨some 3, .mv (.t 57), none⟩])))
 (.reg false [⟨some 17, .mv (.t 4), none⟩, ⟨some 18, .bin .add (.t 17) (ki 1), none⟩, ⟨some 4, .mv (.t 18), none⟩]))))))
 (.seq (.reg false [⟨some 58, .mv (.t 3), none⟩, ⟨some 59, .bin .leq (.t 58) (ki 6000), none⟩, ⟨some 60, .mv (.t 59), none⟩, ⟨some 61, .fa 1 (.t 1), some (60, true)⟩, ⟨some 62, .ld false 1 (.t 61), some (60, true)⟩, ⟨some 63, .len (.t 62), some (60, true)⟩, ⟨some 64, .bin .leq (.t 63) (ki 30), some (60, true)⟩, ⟨some 65, .pick (.t 60) (.t 64) (kb false), none⟩, ⟨some 2, .mv (.t 65), none⟩])
 .ret))))
abbrev n_windroselaw03_light : Nat := 9
theorem F_windroselaw03_light : Fun Try.prog n_windroselaw03_light 66 c_windroselaw03_light [.t 2] := ⟨⟨Try.f9, _, Try.func9, by kernel_rfl, rfl, rfl, by kernel_rfl, by kernel_rfl⟩⟩
/-- windrose/windroselaw03.awake -/
def c_windroselaw03_awake : C :=
 (.seq (.reg false [⟨some 0, .mv (kb false), none⟩])
 (.seq (.reg false [⟨some 6, .call (kf 14) [(.k (.one (.c (.v (.string ⟨#[99, 112, 117, 123, 122, 111, 110, 101, 61, 34, 97, 34, 44, 104, 111, 115, 116, 61, 34, 98, 34, 125]⟩)))))], none⟩, ⟨some 5, .mv (.t 6), none⟩, ⟨some 7, .ex (.t 5) 0, none⟩, ⟨some 8, .ex (.t 5) 1, none⟩, ⟨some 1, .alloc 24 2 [.string ⟨#[]⟩, .slice none 0 0], none⟩, ⟨none, .st 2 (.t 1) (.t 7), none⟩, ⟨some 2, .mv (.t 8), none⟩])
 (.seq (.reg false [⟨some 10, .ld true 2 (.t 1), none⟩, ⟨some 11, .call (kf 11) [(.t 10)], none⟩, ⟨some 9, .mv (.t 11), none⟩, ⟨some 12, .ex (.t 9) 0, none⟩, ⟨some 13, .ex (.t 9) 1, none⟩, ⟨some 3, .mv (.t 12), none⟩, ⟨some 4, .mv (.t 13), none⟩])
 (.seq (.reg false [⟨some 14, .mv (.t 2), none⟩, ⟨some 15, .bin .eql (.t 14) (ki 0), none⟩, ⟨some 16, .mv (.t 15), none⟩, ⟨some 17, .mv (.t 4), some (16, true)⟩, ⟨some 18, .bin .eql (.t 17) (ki 0), some (16, true)⟩, ⟨some 19, .pick (.t 16) (.t 18) (kb false), none⟩, ⟨some 20, .mv (.t 19), none⟩, ⟨some 21, .mv (.t 3), some (20, true)⟩, ⟨some 22, .bin .eql (.t 21) (.k (.one (.c (.v (.string ⟨#[99, 112, 117, 123, 104, 111, 115, 116, 61, 34, 98, 34, 44, 122, 111, 110, 101, 61, 34, 97, 34, 125]⟩))))), some (20, true)⟩, ⟨some 23, .pick (.t 20) (.t 22) (kb false), none⟩, ⟨some 0, .mv (.t 23), none⟩])
 .ret))))
abbrev n_windroselaw03_awake : Nat := 10
theorem F_windroselaw03_awake : Fun Try.prog n_windroselaw03_awake 24 c_windroselaw03_awake [.t 0] := ⟨⟨Try.f10, _, Try.func10, by kernel_rfl, rfl, rfl, by kernel_rfl, by kernel_rfl⟩⟩
/-- windrose/label.Print -/
def c_label_Print : C :=
 (.seq (.reg false [⟨some 1, .box 24 2 (.t 0), none⟩, ⟨some 2, .mv (.k (.one (.c (.v (.string ⟨#[]⟩))))), none⟩, ⟨some 3, .mv (ki 0), none⟩])
 (.seq (.seq (.reg false [⟨some 10, .ld true 2 (.t 1), none⟩, ⟨some 11, .call (kf 12) [(.t 10)], none⟩, ⟨some 4, .mv (.t 11), none⟩])
 (.seq (.reg false [⟨some 12, .mv (.t 4), none⟩, ⟨some 13, .bin .neq (.t 12) (ki 0), none⟩])
 (.cond (.t 13)
 (.seq (.reg false [⟨some 14, .mv (.t 4), none⟩, ⟨some 2, .mv (.k (.one (.c (.v (.string ⟨#[]⟩))))), none⟩, ⟨some 3, .mv (.t 14), none⟩])
 .ret)
 .skip)))
 (.seq (.seq (.reg false [⟨some 15, .fa 1 (.t 1), none⟩, ⟨some 16, .ld false 1 (.t 15), none⟩, ⟨some 17, .len (.t 16), none⟩, ⟨some 18, .bin .eql (.t 17) (ki 0), none⟩])
 (.cond (.t 18)
 (.seq (.reg false [⟨some 19, .fa 0 (.t 1), none⟩, ⟨some 20, .ld false 1 (.t 19), none⟩, ⟨some 2, .mv (.t 20), none⟩, ⟨some 3, .mv (ki 0), none⟩])
 .ret)
 .skip))
 (.seq (.reg false [⟨some 5, .alloc 87 2 [.pointer none, .slice none 0 0], none⟩])
 (.seq (.reg false [⟨some 21, .fa 0 (.t 1), none⟩, ⟨some 22, .ld false 1 (.t 21), none⟩, ⟨some 23, .call (kf 41) [(.t 5), (.t 22)], none⟩])
 (.seq (.seq (.reg false [⟨some 24, .fa 1 (.t 1), none⟩, ⟨some 25, .ld false 1 (.t 24), none⟩, ⟨some 26, .len (.t 25), none⟩, ⟨some 27, .mv (ki 0), none⟩])
 (.block 0 (.loop (.seq (.reg false [⟨some 28, .bin .lss (.t 27) (.t 26), none⟩])
 (.seq (.cond (.t 28)
 .skip
 (.exit 0))
 (.seq (.block 1 (.seq (.reg false [⟨some 29, .mv (.t 27), none⟩, ⟨some 30, .ia 2 (.t 25) (.t 27), none⟩, ⟨some 31, .ld true 2 (.t 30), none⟩, ⟨some 7, .alloc 83 2 [.string ⟨#[]⟩, .string ⟨#[]⟩], none⟩, ⟨some 6, .mv (.t 29), none⟩, ⟨none, .st 2 (.t 7) (.t 31), none⟩])
 (.seq (.reg false [⟨some 32, .mv (.t 6), none⟩, ⟨some 33, .mn (.t 32) (ki 1), none⟩, ⟨some 34, .ix (.k (.one (.c (.v (.string ⟨#[123, 44]⟩))))) (.t 33), none⟩, ⟨some 35, .call (kf 42) [(.t 5), (.t 34)], none⟩])
 (.seq (.reg false [⟨some 36, .fa 0 (.t 7), none⟩, ⟨some 37, .ld false 1 (.t 36), none⟩, ⟨some 38, .bin .add (.t 37) (.k (.one (.c (.v (.string ⟨#[61, 34]⟩))))), none⟩, ⟨some 39, .call (kf 41) [(.t 5), (.t 38)], none⟩])
 (.seq (.seq (.reg false [⟨some 40, .fa 1 (.t 7), none⟩, ⟨some 41, .ld false 1 (.t 40), none⟩, ⟨some 42, .rng (.t 41), none⟩])
 (.block 2 (.loop (.seq (.reg false [⟨some 43, .nxt (.t 42), none⟩, ⟨some 44, .ex (.t 43) 0, none⟩])
 (.seq (.cond (.t 44)
 .skip
 (.exit 2))
 (.block 3 (.seq (.reg false [⟨some 45, .ex (.t 43) 2, none⟩, ⟨some 9, .mv (.t 45), none⟩])
 (.seq (.seq (.reg false [⟨some 46, .mv (.t 9), none⟩, ⟨some 47, .bin .eql (.t 46) (.k (.one (.c (.v (.int .i32 34))))), none⟩, ⟨some 48, .mv (.t 47), none⟩, ⟨some 49, .mv (.t 9), some (48, false)⟩, ⟨some 50, .bin .eql (.t 49) (.k (.one (.c (.v (.int .i32 92))))), some (48, false)⟩, ⟨some 51, .pick (.t 48) (kb true) (.t 50), none⟩])
 (.cond (.t 51)
 (.reg false [⟨some 52, .call (kf 42) [(.t 5), (.k (.one (.c (.v (.int .u8 92)))))], none⟩])
 .skip))
 (.reg false [⟨some 53, .mv (.t 9), none⟩, ⟨some 54, .call (kf 43) [(.t 5), (.t 53)], none⟩])))))))))
 (.reg false [⟨some 55, .call (kf 42) [(.t 5), (.k (.one (.c (.v (.int .u8 34)))))], none⟩]))))))
 (.reg false [⟨some 56, .bin .add (.t 27) (ki 1), none⟩, ⟨some 27, .mv (.t 56), none⟩])))))))
 (.seq (.reg false [⟨some 57, .call (kf 42) [(.t 5), (.k (.one (.c (.v (.int .u8 125)))))], none⟩])
 (.seq (.reg false [⟨some 58, .call (kf 44) [(.t 5)], none⟩, ⟨some 2, .mv (.t 58), none⟩, ⟨some 3, .mv (ki 0), none⟩])
 .ret))))))))
abbrev n_label_Print : Nat := 11
theorem F_label_Print : Fun Try.prog n_label_Print 59 c_label_Print [.t 2, .t 3] := ⟨⟨Try.f11, _, Try.func11, by kernel_rfl, rfl, rfl, by kernel_rfl, by kernel_rfl⟩⟩
/-- windrose/label.Check -/
def c_label_Check : C :=
 (.seq (.reg false [⟨some 1, .box 24 2 (.t 0), none⟩, ⟨some 2, .mv (ki 0), none⟩])
 (.seq (.seq (.reg false [⟨some 5, .fa 0 (.t 1), none⟩, ⟨some 6, .ld false 1 (.t 5), none⟩, ⟨some 7, .call (kf 45) [(.t 6)], none⟩, ⟨some 8, .un .not (.t 7), none⟩, ⟨some 9, .mv (.t 8), none⟩, ⟨some 10, .fa 1 (.t 1), some (9, false)⟩, ⟨some 11, .ld false 1 (.t 10), some (9, false)⟩, ⟨some 12, .len (.t 11), some (9, false)⟩, ⟨some 13, .bin .gtr (.t 12) (ki 4), some (9, false)⟩, ⟨some 14, .pick (.t 9) (kb true) (.t 13), none⟩])
 (.cond (.t 14)
 (.seq (.reg false [⟨some 2, .mv (ki 1), none⟩])
 .ret)
 .skip))
 (.seq (.seq (.reg false [⟨some 15, .fa 1 (.t 1), none⟩, ⟨some 16, .ld false 1 (.t 15), none⟩, ⟨some 17, .len (.t 16), none⟩, ⟨some 18, .mv (ki 0), none⟩])
 (.block 0 (.loop (.seq (.reg false [⟨some 19, .bin .lss (.t 18) (.t 17), none⟩])
 (.seq (.cond (.t 19)
 .skip
 (.exit 0))
 (.seq (.block 1 (.seq (.reg false [⟨some 20, .mv (.t 18), none⟩, ⟨some 21, .ia 2 (.t 16) (.t 18), none⟩, ⟨some 22, .ld true 2 (.t 21), none⟩, ⟨some 4, .alloc 83 2 [.string ⟨#[]⟩, .string ⟨#[]⟩], none⟩, ⟨some 3, .mv (.t 20), none⟩, ⟨none, .st 2 (.t 4) (.t 22), none⟩])
 (.seq (.reg true [⟨some 23, .fa 0 (.t 4), none⟩, ⟨some 24, .ld false 1 (.t 23), none⟩, ⟨some 25, .call (kf 45) [(.t 24)], none⟩, ⟨some 26, .un .not (.t 25), none⟩, ⟨some 27, .mv (.t 26), none⟩, ⟨some 28, .fa 1 (.t 4), some (27, false)⟩, ⟨some 29, .ld false 1 (.t 28), some (27, false)⟩, ⟨some 30, .call (kf 46) [(.t 29)], some (27, false)⟩, ⟨some 31, .un .not (.t 30), some (27, false)⟩, ⟨some 32, .pick (.t 27) (kb true) (.t 31), none⟩, ⟨some 33, .mv (.t 32), none⟩, ⟨some 34, .mv (.t 3), some (33, false)⟩, ⟨some 35, .bin .gtr (.t 34) (ki 0), some (33, false)⟩, ⟨some 36, .mv (.t 35), some (33, false)⟩, ⟨some 37, .fa 0 (.t 4), some (36, true)⟩, ⟨some 38, .ld false 1 (.t 37), some (36, true)⟩, ⟨some 39, .fa 1 (.t 1), some (36, true)⟩, ⟨some 40, .ld false 1 (.t 39), some (36, true)⟩, ⟨some 41, .mv (.t 3), some (36, true)⟩, ⟨some 42, .bin .sub (.t 41) (ki 1), some (36, true)⟩, ⟨some 43, .ia 2 (.t 40) (.t 42), some (36, true)⟩, ⟨some 44, .fa 0 (.t 43), some (36, true)⟩, ⟨some 45, .ld false 1 (.t 44), some (36, true)⟩, ⟨some 46, .bin .leq (.t 38) (.t 45), some (36, true)⟩, ⟨some 47, .pick (.t 36) (.t 46) (kb false), some (33, false)⟩, ⟨some 48, .pick (.t 33) (kb true) (.t 47), none⟩])
 (.cond (.t 48)
 (.seq (.reg false [⟨some 2, .mv (ki 1), none⟩])
 .ret)
 .skip))))
 (.reg false [⟨some 49, .bin .add (.t 18) (ki 1), none⟩, ⟨some 18, .mv (.t 49), none⟩])))))))
 (.seq (.reg false [⟨some 2, .mv (ki 0), none⟩])
 .ret))))
abbrev n_label_Check : Nat := 12
theorem F_label_Check : Fun Try.prog n_label_Check 50 c_label_Check [.t 2] := ⟨⟨Try.f12, _, Try.func12, by kernel_rfl, rfl, rfl, by kernel_rfl, by kernel_rfl⟩⟩
/-- windrose/windroseref03.May -/
def c_windroseref03_May : C :=
 (.seq (.reg false [⟨some 1, .box 24 2 (.t 0), none⟩, ⟨some 2, .mv (kb false), none⟩])
 (.seq (.seq (.reg false [⟨some 3, .mv (ki 0), none⟩])
 (.block 0 (.loop (.seq (.seq (.reg false [⟨some 4, .mv (.t 3), none⟩, ⟨some 5, .fa 1 (.t 1), none⟩, ⟨some 6, .ld false 1 (.t 5), none⟩, ⟨some 7, .len (.t 6), none⟩, ⟨some 8, .bin .lss (.t 4) (.t 7), none⟩])
 (.cond (.t 8)
 .skip
 (.exit 0)))
 (.seq (.block 1 (.seq (.reg true [⟨some 11, .fa 1 (.t 1), none⟩, ⟨some 12, .ld false 1 (.t 11), none⟩, ⟨some 13, .mv (.t 3), none⟩, ⟨some 14, .ia 2 (.t 12) (.t 13), none⟩, ⟨some 15, .fa 0 (.t 14), none⟩, ⟨some 16, .ld false 1 (.t 15), none⟩, ⟨some 17, .call (kf 20) [(.t 16)], none⟩, ⟨some 18, .un .not (.t 17), none⟩, ⟨some 19, .mv (.t 18), none⟩, ⟨some 20, .fa 1 (.t 1), some (19, false)⟩, ⟨some 21, .ld false 1 (.t 20), some (19, false)⟩, ⟨some 22, .mv (.t 3), some (19, false)⟩, ⟨some 23, .ia 2 (.t 21) (.t 22), some (19, false)⟩, ⟨some 24, .fa 1 (.t 23), some (19, false)⟩, ⟨some 25, .ld false 1 (.t 24), some (19, false)⟩, ⟨some 26, .call (kf 21) [(.t 25)], some (19, false)⟩, ⟨some 27, .un .not (.t 26), some (19, false)⟩, ⟨some 28, .pick (.t 19) (kb true) (.t 27), none⟩, ⟨some 29, .mv (.t 28), none⟩, ⟨some 30, .mv (.t 3), some (29, false)⟩, ⟨some 31, .bin .gtr (.t 30) (ki 0), some (29, false)⟩, ⟨some 32, .mv (.t 31), some (29, false)⟩, ⟨some 33, .fa 1 (.t 1), some (32, true)⟩, ⟨some 34, .ld false 1 (.t 33), some (32, true)⟩, ⟨some 35, .mv (.t 3), some (32, true)⟩, ⟨some 36, .bin .sub (.t 35) (ki 1), some (32, true)⟩, ⟨some 37, .ia 2 (.t 34) (.t 36), some (32, true)⟩, ⟨some 38, .fa 0 (.t 37), some (32, true)⟩, ⟨some 39, .ld false 1 (.t 38), some (32, true)⟩, ⟨some 40, .fa 1 (.t 1), some (32, true)⟩, ⟨some 41, .ld false 1 (.t 40), some (32, true)⟩, ⟨some 42, .mv (.t 3), some (32, true)⟩, ⟨some 43, .ia 2 (.t 41) (.t 42), some (32, true)⟩, ⟨some 44, .fa 0 (.t 43), some (32, true)⟩, ⟨some 45, .ld false 1 (.t 44), some (32, true)⟩, ⟨some 46, .bin .geq (.t 39) (.t 45), some (32, true)⟩, ⟨some 47, .pick (.t 32) (.t 46) (kb false), some (29, false)⟩, ⟨some 48, .pick (.t 29) (kb true) (.t 47), none⟩])
 (.cond (.t 48)
 (.seq (.reg false [⟨some 2, .mv (kb false), none⟩])
 .ret)
 .skip)))
 (.reg false [⟨some 9, .mv (.t 3), none⟩, ⟨some 10, .bin .add (.t 9) (ki 1), none⟩, ⟨some 3, .mv (.t 10), none⟩]))))))
 (.seq (.reg false [⟨some 49, .fa 0 (.t 1), none⟩, ⟨some 50, .ld false 1 (.t 49), none⟩, ⟨some 51, .call (kf 20) [(.t 50)], none⟩, ⟨some 52, .mv (.t 51), none⟩, ⟨some 53, .fa 1 (.t 1), some (52, true)⟩, ⟨some 54, .ld false 1 (.t 53), some (52, true)⟩, ⟨some 55, .len (.t 54), some (52, true)⟩, ⟨some 56, .bin .leq (.t 55) (ki 4), some (52, true)⟩, ⟨some 57, .pick (.t 52) (.t 56) (kb false), none⟩, ⟨some 2, .mv (.t 57), none⟩])
 .ret)))
abbrev n_windroseref03_May : Nat := 13
theorem F_windroseref03_May : Fun Try.prog n_windroseref03_May 58 c_windroseref03_May [.t 2] := ⟨⟨Try.f13, _, Try.func13, by kernel_rfl, rfl, rfl, by kernel_rfl, by kernel_rfl⟩⟩
/-- windrose/label.Parse -/
def c_label_Parse : C :=
 (.seq (.reg false [⟨some 2, .alloc 24 2 [.string ⟨#[]⟩, .slice none 0 0], none⟩, ⟨some 3, .mv (ki 0), none⟩])
 (.seq (.reg false [⟨some 15, .mv (.t 0), none⟩, ⟨some 16, .call (kf 47) [(.t 15), (.k (.one (.c (.v (.string ⟨#[123]⟩)))))], none⟩, ⟨some 14, .mv (.t 16), none⟩, ⟨some 17, .ex (.t 14) 0, none⟩, ⟨some 18, .ex (.t 14) 1, none⟩, ⟨some 19, .ex (.t 14) 2, none⟩, ⟨some 4, .mv (.t 17), none⟩, ⟨some 5, .mv (.t 18), none⟩, ⟨some 6, .mv (.t 19), none⟩])
 (.seq (.reg false [⟨some 20, .mv (.t 4), none⟩, ⟨some 21, .bld [.string ⟨#[]⟩, .slice none 0 0] [(0, 1, (.t 20))], none⟩, ⟨some 7, .alloc 24 2 [.string ⟨#[]⟩, .slice none 0 0], none⟩, ⟨none, .st 2 (.t 7) (.t 21), none⟩])
 (.seq (.seq (.reg false [⟨some 22, .mv (.t 6), none⟩, ⟨some 8, .mv (.t 22), none⟩])
 (.block 0 (.loop (.seq (.seq (.reg false [⟨some 23, .mv (.t 8), none⟩])
 (.cond (.t 23)
 .skip
 (.exit 0)))
 (.block 1 (.seq (.reg false [⟨some 25, .mv (.t 5), none⟩, ⟨some 26, .call (kf 47) [(.t 25), (.k (.one (.c (.v (.string ⟨#[61, 34]⟩)))))], none⟩, ⟨some 24, .mv (.t 26), none⟩, ⟨some 27, .ex (.t 24) 0, none⟩, ⟨some 28, .ex (.t 24) 1, none⟩, ⟨some 29, .ex (.t 24) 2, none⟩, ⟨some 9, .mv (.t 27), none⟩, ⟨some 10, .mv (.t 28), none⟩, ⟨some 11, .mv (.t 29), none⟩])
 (.seq (.reg false [⟨some 31, .mv (.t 10), none⟩, ⟨some 32, .call (kf 48) [(.t 31)], none⟩, ⟨some 30, .mv (.t 32), none⟩, ⟨some 33, .ex (.t 30) 0, none⟩, ⟨some 34, .ex (.t 30) 1, none⟩, ⟨some 35, .ex (.t 30) 2, none⟩, ⟨some 12, .mv (.t 33), none⟩, ⟨some 10, .mv (.t 34), none⟩, ⟨some 13, .mv (.t 35), none⟩])
 (.seq (.seq (.reg false [⟨some 36, .mv (.t 11), none⟩, ⟨some 37, .un .not (.t 36), none⟩, ⟨some 38, .mv (.t 37), none⟩, ⟨some 39, .mv (.t 13), some (38, false)⟩, ⟨some 40, .un .not (.t 39), some (38, false)⟩, ⟨some 41, .pick (.t 38) (kb true) (.t 40), none⟩, ⟨some 42, .mv (.t 41), none⟩, ⟨some 43, .mv (.t 10), some (42, false)⟩, ⟨some 44, .bin .eql (.t 43) (.k (.one (.c (.v (.string ⟨#[]⟩))))), some (42, false)⟩, ⟨some 45, .pick (.t 42) (kb true) (.t 44), none⟩, ⟨some 46, .mv (.t 45), none⟩, ⟨some 47, .fa 1 (.t 7), some (46, false)⟩, ⟨some 48, .ld false 1 (.t 47), some (46, false)⟩, ⟨some 49, .len (.t 48), some (46, false)⟩, ⟨some 50, .bin .eql (.t 49) (ki 4), some (46, false)⟩, ⟨some 51, .pick (.t 46) (kb true) (.t 50), none⟩])
 (.cond (.t 51)
 (.seq (.reg false [⟨some 52, .bld [.string ⟨#[]⟩, .slice none 0 0] [], none⟩, ⟨none, .st 2 (.t 2) (.t 52), none⟩, ⟨some 3, .mv (ki 2), none⟩])
 .ret)
 .skip))
 (.seq (.reg false [⟨some 53, .fa 1 (.t 7), none⟩, ⟨some 54, .ld false 1 (.t 53), none⟩, ⟨some 55, .mv (.t 9), none⟩, ⟨some 56, .mv (.t 12), none⟩, ⟨some 57, .bld [.string ⟨#[]⟩, .string ⟨#[]⟩] [(0, 1, (.t 55)), (1, 1, (.t 56))], none⟩, ⟨some 58, .bsl 83 2 1 [.string ⟨#[]⟩, .string ⟨#[]⟩] [(0, (.t 57))], none⟩, ⟨some 59, .app 83 2 32 [.string ⟨#[]⟩, .string ⟨#[]⟩] (.t 54) (.t 58), none⟩, ⟨some 60, .fa 1 (.t 7), none⟩, ⟨none, .st 1 (.t 60) (.t 59), none⟩])
 (.seq (.seq (.reg false [⟨some 61, .mv (.t 10), none⟩, ⟨some 62, .ix (.t 61) (ki 0), none⟩, ⟨some 63, .bin .eql (.t 62) (.k (.one (.c (.v (.int .u8 44))))), none⟩, ⟨some 8, .mv (.t 63), none⟩])
 (.seq (.reg false [⟨some 64, .mv (.t 8), none⟩, ⟨some 65, .un .not (.t 64), none⟩, ⟨some 66, .mv (.t 65), none⟩, ⟨some 67, .mv (.t 10), some (66, true)⟩, ⟨some 68, .bin .neq (.t 67) (.k (.one (.c (.v (.string ⟨#[125]⟩))))), some (66, true)⟩, ⟨some 69, .pick (.t 66) (.t 68) (kb false), none⟩])
 (.cond (.t 69)
 (.seq (.reg false [⟨some 70, .bld [.string ⟨#[]⟩, .slice none 0 0] [], none⟩, ⟨none, .st 2 (.t 2) (.t 70), none⟩, ⟨some 3, .mv (ki 2), none⟩])
 .ret)
 .skip)))
 (.reg false [⟨some 71, .mv (.t 10), none⟩, ⟨some 72, .sls (.t 71) (some (ki 1)) none, none⟩, ⟨some 5, .mv (.t 72), none⟩])))))))))))
 (.seq (.reg false [⟨some 73, .fa 1 (.t 7), none⟩, ⟨some 74, .ld false 1 (.t 73), none⟩, ⟨some 75, .call (kf 49) [(.t 74), (kf 50)], none⟩])
 (.seq (.seq (.reg false [⟨some 76, .ld true 2 (.t 7), none⟩, ⟨some 77, .call (kf 12) [(.t 76)], none⟩, ⟨some 78, .bin .neq (.t 77) (ki 0), none⟩])
 (.cond (.t 78)
 (.seq (.reg false [⟨some 79, .bld [.string ⟨#[]⟩, .slice none 0 0] [], none⟩, ⟨none, .st 2 (.t 2) (.t 79), none⟩, ⟨some 3, .mv (ki 2), none⟩])
 .ret)
 .skip))
 (.seq (.reg false [⟨some 80, .ld true 2 (.t 7), none⟩, ⟨none, .st 2 (.t 2) (.t 80), none⟩, ⟨some 3, .mv (ki 0), none⟩])
 .ret)))))))
abbrev n_label_Parse : Nat := 14
theorem F_label_Parse : Fun Try.prog n_label_Parse 81 c_label_Parse [.l true 2 2, .t 3] := ⟨⟨Try.f14, _, Try.func14, by kernel_rfl, rfl, rfl, by kernel_rfl, by kernel_rfl⟩⟩
/-- windrose/windroseref03.Text -/
def c_windroseref03_Text : C :=
 (.seq (.reg false [⟨some 1, .box 24 2 (.t 0), none⟩, ⟨some 2, .mv (.k (.one (.c (.v (.string ⟨#[]⟩))))), none⟩])
 (.seq (.reg false [⟨some 7, .fa 0 (.t 1), none⟩, ⟨some 8, .ld false 1 (.t 7), none⟩, ⟨some 3, .mv (.t 8), none⟩])
 (.seq (.seq (.reg false [⟨some 4, .mv (ki 0), none⟩])
 (.block 0 (.loop (.seq (.seq (.reg false [⟨some 9, .mv (.t 4), none⟩, ⟨some 10, .fa 1 (.t 1), none⟩, ⟨some 11, .ld false 1 (.t 10), none⟩, ⟨some 12, .len (.t 11), none⟩, ⟨some 13, .bin .lss (.t 9) (.t 12), none⟩])
 (.cond (.t 13)
 .skip
 (.exit 0)))
 (.seq (.block 1 (.seq (.seq (.reg false [⟨some 16, .mv (.t 4), none⟩, ⟨some 17, .bin .eql (.t 16) (ki 0), none⟩])
 (.cond (.t 17)
 (.reg false [⟨some 18, .mv (.t 3), none⟩, ⟨some 19, .bin .add (.t 18) (.k (.one (.c (.v (.string ⟨#[123]⟩))))), none⟩, ⟨some 3, .mv (.t 19), none⟩])
 (.reg false [⟨some 20, .mv (.t 3), none⟩, ⟨some 21, .bin .add (.t 20) (.k (.one (.c (.v (.string ⟨#[44]⟩))))), none⟩, ⟨some 3, .mv (.t 21), none⟩])))
 (.seq (.reg false [⟨some 22, .mv (.t 3), none⟩, ⟨some 23, .fa 1 (.t 1), none⟩, ⟨some 24, .ld false 1 (.t 23), none⟩, ⟨some 25, .mv (.t 4), none⟩, ⟨some 26, .ia 2 (.t 24) (.t 25), none⟩, ⟨some 27, .fa 0 (.t 26), none⟩, ⟨some 28, .ld false 1 (.t 27), none⟩, ⟨some 29, .bin .add (.t 22) (.t 28), none⟩, ⟨some 30, .bin .add (.t 29) (.k (.one (.c (.v (.string ⟨#[61, 34]⟩))))), none⟩, ⟨some 3, .mv (.t 30), none⟩])
 (.seq (.reg false [⟨some 31, .fa 1 (.t 1), none⟩, ⟨some 32, .ld false 1 (.t 31), none⟩, ⟨some 33, .mv (.t 4), none⟩, ⟨some 34, .ia 2 (.t 32) (.t 33), none⟩, ⟨some 35, .fa 1 (.t 34), none⟩, ⟨some 36, .ld false 1 (.t 35), none⟩, ⟨some 5, .mv (.t 36), none⟩])
 (.seq (.seq (.reg false [⟨some 6, .mv (ki 0), none⟩])
 (.block 2 (.loop (.seq (.seq (.reg false [⟨some 37, .mv (.t 6), none⟩, ⟨some 38, .mv (.t 5), none⟩, ⟨some 39, .lens (.t 38), none⟩, ⟨some 40, .bin .lss (.t 37) (.t 39), none⟩])
 (.cond (.t 40)
 .skip
 (.exit 2)))
 (.seq (.block 3 (.seq (.seq (.reg false [⟨some 43, .mv (.t 5), none⟩, ⟨some 44, .mv (.t 6), none⟩, ⟨some 45, .ix (.t 43) (.t 44), none⟩, ⟨some 46, .bin .eql (.t 45) (.k (.one (.c (.v (.int .u8 34))))), none⟩, ⟨some 47, .mv (.t 46), none⟩, ⟨some 48, .mv (.t 5), some (47, false)⟩, ⟨some 49, .mv (.t 6), some (47, false)⟩, ⟨some 50, .ix (.t 48) (.t 49), some (47, false)⟩, ⟨some 51, .bin .eql (.t 50) (.k (.one (.c (.v (.int .u8 92))))), some (47, false)⟩, ⟨some 52, .pick (.t 47) (kb true) (.t 51), none⟩])
 (.cond (.t 52)
 (.reg false [⟨some 53, .mv (.t 3), none⟩, ⟨some 54, .bin .add (.t 53) (.k (.one (.c (.v (.string ⟨#[92]⟩))))), none⟩, ⟨some 3, .mv (.t 54), none⟩])
 .skip))
 (.reg false [⟨some 55, .mv (.t 3), none⟩, ⟨some 56, .mv (.t 5), none⟩, ⟨some 57, .mv (.t 6), none⟩, ⟨some 58, .mv (.t 6), none⟩, ⟨some 59, .bin .add (.t 58) (ki 1), none⟩, ⟨some 60, .sls (.t 56) (some (.t 57)) (some (.t 59)), none⟩, ⟨some 61, .bin .add (.t 55) (.t 60), none⟩, ⟨some 3, .mv (.t 61), none⟩])))
 (.reg false [⟨some 41, .mv (.t 6), none⟩, ⟨some 42, .bin .add (.t 41) (ki 1), none⟩, ⟨some 6, .mv (.t 42), none⟩]))))))
 (.reg false [⟨some 62, .mv (.t 3), none⟩, ⟨some 63, .bin .add (.t 62) (.k (.one (.c (.v (.string ⟨#[34]⟩))))), none⟩, ⟨some 3, .mv (.t 63), none⟩]))))))
 (.reg false [⟨some 14, .mv (.t 4), none⟩, ⟨some 15, .bin .add (.t 14) (ki 1), none⟩, ⟨some 4, .mv (.t 15), none⟩]))))))
 (.seq (.seq (.reg false [⟨some 64, .fa 1 (.t 1), none⟩, ⟨some 65, .ld false 1 (.t 64), none⟩, ⟨some 66, .len (.t 65), none⟩, ⟨some 67, .bin .gtr (.t 66) (ki 0), none⟩])
 (.cond (.t 67)
 (.reg false [⟨some 68, .mv (.t 3), none⟩, ⟨some 69, .bin .add (.t 68) (.k (.one (.c (.v (.string ⟨#[125]⟩))))), none⟩, ⟨some 3, .mv (.t 69), none⟩])
 .skip))
 (.seq (.reg false [⟨some 70, .mv (.t 3), none⟩, ⟨some 2, .mv (.t 70), none⟩])
 .ret)))))
abbrev n_windroseref03_Text : Nat := 15
theorem F_windroseref03_Text : Fun Try.prog n_windroseref03_Text 71 c_windroseref03_Text [.t 2] := ⟨⟨Try.f15, _, Try.func15, by kernel_rfl, rfl, rfl, by kernel_rfl, by kernel_rfl⟩⟩
/-- windrose/windroseref03.Same -/
def c_windroseref03_Same : C :=
 (.seq (.reg false [⟨some 2, .box 24 2 (.t 0), none⟩, ⟨some 3, .box 24 2 (.t 1), none⟩, ⟨some 4, .mv (kb false), none⟩])
 (.seq (.seq (.reg false [⟨some 6, .fa 0 (.t 2), none⟩, ⟨some 7, .ld false 1 (.t 6), none⟩, ⟨some 8, .fa 0 (.t 3), none⟩, ⟨some 9, .ld false 1 (.t 8), none⟩, ⟨some 10, .bin .neq (.t 7) (.t 9), none⟩, ⟨some 11, .mv (.t 10), none⟩, ⟨some 12, .fa 1 (.t 2), some (11, false)⟩, ⟨some 13, .ld false 1 (.t 12), some (11, false)⟩, ⟨some 14, .len (.t 13), some (11, false)⟩, ⟨some 15, .fa 1 (.t 3), some (11, false)⟩, ⟨some 16, .ld false 1 (.t 15), some (11, false)⟩, ⟨some 17, .len (.t 16), some (11, false)⟩, ⟨some 18, .bin .neq (.t 14) (.t 17), some (11, false)⟩, ⟨some 19, .pick (.t 11) (kb true) (.t 18), none⟩])
 (.cond (.t 19)
 (.seq (.reg false [⟨some 4, .mv (kb false), none⟩])
 .ret)
 .skip))
 (.seq (.seq (.reg false [⟨some 5, .mv (ki 0), none⟩])
 (.block 0 (.loop (.seq (.seq (.reg false [⟨some 20, .mv (.t 5), none⟩, ⟨some 21, .fa 1 (.t 2), none⟩, ⟨some 22, .ld false 1 (.t 21), none⟩, ⟨some 23, .len (.t 22), none⟩, ⟨some 24, .bin .lss (.t 20) (.t 23), none⟩])
 (.cond (.t 24)
 .skip
 (.exit 0)))
 (.seq (.block 1 (.seq (.reg true [⟨some 27, .fa 1 (.t 2), none⟩, ⟨some 28, .ld false 1 (.t 27), none⟩, ⟨some 29, .mv (.t 5), none⟩, ⟨some 30, .ia 2 (.t 28) (.t 29), none⟩, ⟨some 31, .ld true 2 (.t 30), none⟩, ⟨some 32, .fa 1 (.t 3), none⟩, ⟨some 33, .ld false 1 (.t 32), none⟩, ⟨some 34, .mv (.t 5), none⟩, ⟨some 35, .ia 2 (.t 33) (.t 34), none⟩, ⟨some 36, .ld true 2 (.t 35), none⟩, ⟨some 37, .eqa [2, 2] true (.t 31) (.t 36), none⟩])
 (.cond (.t 37)
 (.seq (.reg false [⟨some 4, .mv (kb false), none⟩])
 .ret)
 .skip)))
 (.reg false [⟨some 25, .mv (.t 5), none⟩, ⟨some 26, .bin .add (.t 25) (ki 1), none⟩, ⟨some 5, .mv (.t 26), none⟩]))))))
 (.seq (.reg false [⟨some 4, .mv (kb true), none⟩])
 .ret))))
abbrev n_windroseref03_Same : Nat := 16
theorem F_windroseref03_Same : Fun Try.prog n_windroseref03_Same 38 c_windroseref03_Same [.t 4] := ⟨⟨Try.f16, _, Try.func16, by kernel_rfl, rfl, rfl, by kernel_rfl, by kernel_rfl⟩⟩
/-- windrose/windroseref03.Parse -/
def c_windroseref03_Parse : C :=
 (.seq (.reg false [⟨some 2, .alloc 24 2 [.string ⟨#[]⟩, .slice none 0 0], none⟩, ⟨some 3, .mv (kb false), none⟩])
 (.seq (.reg false [⟨some 10, .mv (.t 0), none⟩, ⟨some 11, .call (kf 52) [(.t 10), (ki 0), (.k (.one (.c (.v (.int .u8 123)))))], none⟩, ⟨some 4, .mv (.t 11), none⟩])
 (.seq (.reg false [⟨some 12, .mv (.t 0), none⟩, ⟨some 13, .mv (.t 4), none⟩, ⟨some 14, .sls (.t 12) none (some (.t 13)), none⟩, ⟨some 15, .bld [.string ⟨#[]⟩, .slice none 0 0] [(0, 1, (.t 14))], none⟩, ⟨some 5, .alloc 24 2 [.string ⟨#[]⟩, .slice none 0 0], none⟩, ⟨none, .st 2 (.t 5) (.t 15), none⟩])
 (.seq (.block 0 (.loop (.seq (.seq (.reg false [⟨some 16, .mv (.t 4), none⟩, ⟨some 17, .mv (.t 0), none⟩, ⟨some 18, .lens (.t 17), none⟩, ⟨some 19, .bin .lss (.t 16) (.t 18), none⟩])
 (.cond (.t 19)
 .skip
 (.exit 0)))
 (.block 1 (.seq (.reg false [⟨some 20, .mv (.t 4), none⟩, ⟨some 21, .bin .add (.t 20) (ki 1), none⟩, ⟨some 6, .mv (.t 21), none⟩])
 (.seq (.reg false [⟨some 22, .mv (.t 0), none⟩, ⟨some 23, .mv (.t 6), none⟩, ⟨some 24, .call (kf 52) [(.t 22), (.t 23), (.k (.one (.c (.v (.int .u8 61)))))], none⟩, ⟨some 7, .mv (.t 24), none⟩])
 (.seq (.seq (.reg false [⟨some 25, .mv (.t 7), none⟩, ⟨some 26, .bin .add (.t 25) (ki 1), none⟩, ⟨some 27, .mv (.t 0), none⟩, ⟨some 28, .lens (.t 27), none⟩, ⟨some 29, .bin .geq (.t 26) (.t 28), none⟩, ⟨some 30, .mv (.t 29), none⟩, ⟨some 31, .mv (.t 0), some (30, false)⟩, ⟨some 32, .mv (.t 7), some (30, false)⟩, ⟨some 33, .bin .add (.t 32) (ki 1), some (30, false)⟩, ⟨some 34, .ix (.t 31) (.t 33), some (30, false)⟩, ⟨some 35, .bin .neq (.t 34) (.k (.one (.c (.v (.int .u8 34))))), some (30, false)⟩, ⟨some 36, .pick (.t 30) (kb true) (.t 35), none⟩, ⟨some 37, .mv (.t 36), none⟩, ⟨some 38, .fa 1 (.t 5), some (37, false)⟩, ⟨some 39, .ld false 1 (.t 38), some (37, false)⟩, ⟨some 40, .len (.t 39), some (37, false)⟩, ⟨some 41, .bin .eql (.t 40) (ki 4), some (37, false)⟩, ⟨some 42, .pick (.t 37) (kb true) (.t 41), none⟩])
 (.cond (.t 42)
 (.seq (.reg false [⟨some 43, .bld [.string ⟨#[]⟩, .slice none 0 0] [], none⟩, ⟨none, .st 2 (.t 2) (.t 43), none⟩, ⟨some 3, .mv (kb false), none⟩])
 .ret)
 .skip))
 (.seq (.reg false [⟨some 44, .mv (.t 0), none⟩, ⟨some 45, .mv (.t 6), none⟩, ⟨some 46, .mv (.t 7), none⟩, ⟨some 47, .sls (.t 44) (some (.t 45)) (some (.t 46)), none⟩, ⟨some 48, .bld [.string ⟨#[]⟩, .string ⟨#[]⟩] [(0, 1, (.t 47))], none⟩, ⟨some 8, .alloc 83 2 [.string ⟨#[]⟩, .string ⟨#[]⟩], none⟩, ⟨none, .st 2 (.t 8) (.t 48), none⟩])
 (.seq (.reg false [⟨some 49, .mv (.t 7), none⟩, ⟨some 50, .bin .add (.t 49) (ki 2), none⟩, ⟨some 4, .mv (.t 50), none⟩])
 (.seq (.block 2 (.loop (.seq (.seq (.reg false [⟨some 51, .mv (.t 4), none⟩, ⟨some 52, .mv (.t 0), none⟩, ⟨some 53, .lens (.t 52), none⟩, ⟨some 54, .bin .lss (.t 51) (.t 53), none⟩, ⟨some 55, .mv (.t 54), none⟩, ⟨some 56, .mv (.t 0), some (55, true)⟩, ⟨some 57, .mv (.t 4), some (55, true)⟩, ⟨some 58, .ix (.t 56) (.t 57), some (55, true)⟩, ⟨some 59, .bin .neq (.t 58) (.k (.one (.c (.v (.int .u8 34))))), some (55, true)⟩, ⟨some 60, .pick (.t 55) (.t 59) (kb false), none⟩])
 (.cond (.t 60)
 .skip
 (.exit 2)))
 (.block 3 (.seq (.seq (.reg false [⟨some 61, .mv (.t 0), none⟩, ⟨some 62, .mv (.t 4), none⟩, ⟨some 63, .ix (.t 61) (.t 62), none⟩, ⟨some 64, .bin .eql (.t 63) (.k (.one (.c (.v (.int .u8 92))))), none⟩])
 (.cond (.t 64)
 (.seq (.reg false [⟨some 65, .mv (.t 4), none⟩, ⟨some 66, .bin .add (.t 65) (ki 1), none⟩, ⟨some 4, .mv (.t 66), none⟩])
 (.seq (.reg false [⟨some 67, .mv (.t 4), none⟩, ⟨some 68, .mv (.t 0), none⟩, ⟨some 69, .lens (.t 68), none⟩, ⟨some 70, .bin .eql (.t 67) (.t 69), none⟩, ⟨some 71, .mv (.t 70), none⟩, ⟨some 72, .mv (.t 0), some (71, false)⟩, ⟨some 73, .mv (.t 4), some (71, false)⟩, ⟨some 74, .ix (.t 72) (.t 73), some (71, false)⟩, ⟨some 75, .bin .neq (.t 74) (.k (.one (.c (.v (.int .u8 34))))), some (71, false)⟩, ⟨some 76, .mv (.t 75), some (71, false)⟩, ⟨some 77, .mv (.t 0), some (76, true)⟩, ⟨some 78, .mv (.t 4), some (76, true)⟩, ⟨some 79, .ix (.t 77) (.t 78), some (76, true)⟩, ⟨some 80, .bin .neq (.t 79) (.k (.one (.c (.v (.int .u8 92))))), some (76, true)⟩, ⟨some 81, .pick (.t 76) (.t 80) (kb false), some (71, false)⟩, ⟨some 82, .pick (.t 71) (kb true) (.t 81), none⟩])
 (.cond (.t 82)
 (.seq (.reg false [⟨some 83, .bld [.string ⟨#[]⟩, .slice none 0 0] [], none⟩, ⟨none, .st 2 (.t 2) (.t 83), none⟩, ⟨some 3, .mv (kb false), none⟩])
 .ret)
 .skip)))
 .skip))
 (.seq (.reg true [⟨some 84, .fa 1 (.t 8), none⟩, ⟨some 85, .ld false 1 (.t 84), none⟩, ⟨some 86, .mv (.t 0), none⟩, ⟨some 87, .mv (.t 4), none⟩, ⟨some 88, .mv (.t 4), none⟩, ⟨some 89, .bin .add (.t 88) (ki 1), none⟩, ⟨some 90, .sls (.t 86) (some (.t 87)) (some (.t 89)), none⟩, ⟨some 91, .bin .add (.t 85) (.t 90), none⟩, ⟨some 92, .fa 1 (.t 8), none⟩, ⟨none, .st 1 (.t 92) (.t 91), none⟩])
 (.reg false [⟨some 93, .mv (.t 4), none⟩, ⟨some 94, .bin .add (.t 93) (ki 1), none⟩, ⟨some 4, .mv (.t 94), none⟩])))))))
 (.seq (.reg false [⟨some 95, .mv (.t 4), none⟩, ⟨some 96, .bin .add (.t 95) (ki 1), none⟩, ⟨some 4, .mv (.t 96), none⟩])
 (.seq (.seq (.reg false [⟨some 97, .mv (.t 4), none⟩, ⟨some 98, .mv (.t 0), none⟩, ⟨some 99, .lens (.t 98), none⟩, ⟨some 100, .bin .geq (.t 97) (.t 99), none⟩, ⟨some 101, .mv (.t 100), none⟩, ⟨some 102, .mv (.t 0), some (101, false)⟩, ⟨some 103, .mv (.t 4), some (101, false)⟩, ⟨some 104, .ix (.t 102) (.t 103), some (101, false)⟩, ⟨some 105, .bin .neq (.t 104) (.k (.one (.c (.v (.int .u8 44))))), some (101, false)⟩, ⟨some 106, .mv (.t 105), some (101, false)⟩, ⟨some 107, .mv (.t 0), some (106, true)⟩, ⟨some 108, .mv (.t 4), some (106, true)⟩, ⟨some 109, .sls (.t 107) (some (.t 108)) none, some (106, true)⟩, ⟨some 110, .bin .neq (.t 109) (.k (.one (.c (.v (.string ⟨#[125]⟩))))), some (106, true)⟩, ⟨some 111, .pick (.t 106) (.t 110) (kb false), some (101, false)⟩, ⟨some 112, .pick (.t 101) (kb true) (.t 111), none⟩])
 (.cond (.t 112)
 (.seq (.reg false [⟨some 113, .bld [.string ⟨#[]⟩, .slice none 0 0] [], none⟩, ⟨none, .st 2 (.t 2) (.t 113), none⟩, ⟨some 3, .mv (kb false), none⟩])
 .ret)
 .skip))
 (.seq (.reg false [⟨some 9, .mv (ki 0), none⟩])
 (.seq (.block 4 (.loop (.seq (.seq (.reg true [⟨some 114, .mv (.t 9), none⟩, ⟨some 115, .fa 1 (.t 5), none⟩, ⟨some 116, .ld false 1 (.t 115), none⟩, ⟨some 117, .len (.t 116), none⟩, ⟨some 118, .bin .lss (.t 114) (.t 117), none⟩, ⟨some 119, .mv (.t 118), none⟩, ⟨some 120, .fa 1 (.t 5), some (119, true)⟩, ⟨some 121, .ld false 1 (.t 120), some (119, true)⟩, ⟨some 122, .mv (.t 9), some (119, true)⟩, ⟨some 123, .ia 2 (.t 121) (.t 122), some (119, true)⟩, ⟨some 124, .fa 0 (.t 123), some (119, true)⟩, ⟨some 125, .ld false 1 (.t 124), some (119, true)⟩, ⟨some 126, .fa 0 (.t 8), some (119, true)⟩, ⟨some 127, .ld false 1 (.t 126), some (119, true)⟩, ⟨some 128, .bin .lss (.t 125) (.t 127), some (119, true)⟩, ⟨some 129, .pick (.t 119) (.t 128) (kb false), none⟩])
 (.cond (.t 129)
 .skip
 (.exit 4)))
 (.block 5 (.reg false [⟨some 130, .mv (.t 9), none⟩, ⟨some 131, .bin .add (.t 130) (ki 1), none⟩, ⟨some 9, .mv (.t 131), none⟩])))))
 (.seq (.rgx [[], [], [1], [], [2, 1, 3], [0, 4, 2, 1, 3], [], [6], [5, 0, 4, 2, 1, 3, 7, 6], [], [9], [], [10, 9, 11], [8, 5, 0, 4, 2, 1, 3, 7, 6, 12, 10, 9, 11], [0, 1, 2, 3, 4, 5, 6, 7, 8, 9, 10, 11, 12, 13], [14, 0, 1, 2, 3, 4, 5, 6, 7, 8, 9, 10, 11, 12, 13]] [⟨some 132, .bsl 83 2 0 [.string ⟨#[]⟩, .string ⟨#[]⟩] [], none⟩, ⟨some 133, .fa 1 (.t 5), none⟩, ⟨some 134, .ld false 1 (.t 133), none⟩, ⟨some 135, .mv (.t 9), none⟩, ⟨some 136, .slc 2 (.t 134) none (some (.t 135)), none⟩, ⟨some 137, .app 83 2 32 [.string ⟨#[]⟩, .string ⟨#[]⟩] (.t 132) (.t 136), none⟩, ⟨some 138, .ld true 2 (.t 8), none⟩, ⟨some 139, .bsl 83 2 1 [.string ⟨#[]⟩, .string ⟨#[]⟩] [(0, (.t 138))], none⟩, ⟨some 140, .app 83 2 32 [.string ⟨#[]⟩, .string ⟨#[]⟩] (.t 137) (.t 139), none⟩, ⟨some 141, .fa 1 (.t 5), none⟩, ⟨some 142, .ld false 1 (.t 141), none⟩, ⟨some 143, .mv (.t 9), none⟩, ⟨some 144, .slc 2 (.t 142) (some (.t 143)) none, none⟩, ⟨some 145, .app 83 2 32 [.string ⟨#[]⟩, .string ⟨#[]⟩] (.t 140) (.t 144), none⟩, ⟨some 146, .fa 1 (.t 5), none⟩, ⟨none, .st 1 (.t 146) (.t 145), none⟩])
 (.seq (.reg false [⟨some 147, .mv (.t 0), none⟩, ⟨some 148, .mv (.t 4), none⟩, ⟨some 149, .ix (.t 147) (.t 148), none⟩, ⟨some 150, .bin .eql (.t 149) (.k (.one (.c (.v (.int .u8 125))))), none⟩])
 (.cond (.t 150)
 (.reg false [⟨some 151, .mv (.t 0), none⟩, ⟨some 152, .lens (.t 151), none⟩, ⟨some 4, .mv (.t 152), none⟩])
 .skip)))))))))))))))))
 (.seq (.seq (.reg false [⟨some 153, .ld true 2 (.t 5), none⟩, ⟨some 154, .call (kf 13) [(.t 153)], none⟩, ⟨some 155, .un .not (.t 154), none⟩])
 (.cond (.t 155)
 (.seq (.reg false [⟨some 156, .bld [.string ⟨#[]⟩, .slice none 0 0] [], none⟩, ⟨none, .st 2 (.t 2) (.t 156), none⟩, ⟨some 3, .mv (kb false), none⟩])
 .ret)
 .skip))
 (.seq (.reg false [⟨some 157, .ld true 2 (.t 5), none⟩, ⟨none, .st 2 (.t 2) (.t 157), none⟩, ⟨some 3, .mv (kb true), none⟩])
 .ret))))))
abbrev n_windroseref03_Parse : Nat := 17
theorem F_windroseref03_Parse : Fun Try.prog n_windroseref03_Parse 158 c_windroseref03_Parse [.l true 2 2, .t 3] := ⟨⟨Try.f17, _, Try.func17, by kernel_rfl, rfl, rfl, by kernel_rfl, by kernel_rfl⟩⟩
/-- windrose/label.Same -/
def c_label_Same : C :=
 (.seq (.reg false [⟨some 2, .box 24 2 (.t 0), none⟩, ⟨some 3, .box 24 2 (.t 1), none⟩, ⟨some 4, .mv (kb false), none⟩])
 (.seq (.reg false [⟨some 5, .fa 0 (.t 2), none⟩, ⟨some 6, .ld false 1 (.t 5), none⟩, ⟨some 7, .fa 0 (.t 3), none⟩, ⟨some 8, .ld false 1 (.t 7), none⟩, ⟨some 9, .bin .eql (.t 6) (.t 8), none⟩, ⟨some 10, .mv (.t 9), none⟩, ⟨some 11, .fa 1 (.t 2), some (10, true)⟩, ⟨some 12, .ld false 1 (.t 11), some (10, true)⟩, ⟨some 13, .fa 1 (.t 3), some (10, true)⟩, ⟨some 14, .ld false 1 (.t 13), some (10, true)⟩, ⟨some 15, .call (kf 53) [(.t 12), (.t 14)], some (10, true)⟩, ⟨some 16, .pick (.t 10) (.t 15) (kb false), none⟩, ⟨some 4, .mv (.t 16), none⟩])
 .ret))
abbrev n_label_Same : Nat := 18
theorem F_label_Same : Fun Try.prog n_label_Same 17 c_label_Same [.t 4] := ⟨⟨Try.f18, _, Try.func18, by kernel_rfl, rfl, rfl, by kernel_rfl, by kernel_rfl⟩⟩
/-- windrose/label.With -/
def c_label_With : C :=
 (.seq (.reg false [⟨some 3, .box 24 2 (.t 0), none⟩, ⟨some 4, .box 9 1 (.t 1), none⟩, ⟨some 6, .alloc 24 2 [.string ⟨#[]⟩, .slice none 0 0], none⟩, ⟨some 7, .mv (ki 0), none⟩])
 (.seq (.seq (.reg false [⟨some 10, .ld true 2 (.t 3), none⟩, ⟨some 11, .call (kf 12) [(.t 10)], none⟩, ⟨some 12, .bin .neq (.t 11) (ki 0), none⟩, ⟨some 13, .mv (.t 12), none⟩, ⟨some 14, .ld false 1 (.t 4), some (13, false)⟩, ⟨some 15, .call (kf 45) [(.t 14)], some (13, false)⟩, ⟨some 16, .un .not (.t 15), some (13, false)⟩, ⟨some 17, .pick (.t 13) (kb true) (.t 16), none⟩, ⟨some 18, .mv (.t 17), none⟩, ⟨some 19, .mv (.t 2), some (18, false)⟩, ⟨some 20, .call (kf 46) [(.t 19)], some (18, false)⟩, ⟨some 21, .un .not (.t 20), some (18, false)⟩, ⟨some 22, .pick (.t 18) (kb true) (.t 21), none⟩])
 (.cond (.t 22)
 (.seq (.reg false [⟨some 23, .bld [.string ⟨#[]⟩, .slice none 0 0] [], none⟩, ⟨none, .st 2 (.t 6) (.t 23), none⟩, ⟨some 7, .mv (ki 1), none⟩])
 .ret)
 .skip))
 (.seq (.reg false [⟨some 24, .fa 1 (.t 3), none⟩, ⟨some 25, .ld false 1 (.t 24), none⟩, ⟨some 26, .call (kf 55) [(.t 25)], none⟩, ⟨some 27, .mkf 56 [(.t 4)], none⟩, ⟨some 28, .call (kf 54) [(.t 26), (.t 27)], none⟩, ⟨some 29, .fa 1 (.t 3), none⟩, ⟨none, .st 1 (.t 29) (.t 28), none⟩])
 (.seq (.seq (.reg false [⟨some 30, .mv (.t 2), none⟩, ⟨some 31, .bin .neq (.t 30) (.k (.one (.c (.v (.string ⟨#[]⟩))))), none⟩])
 (.cond (.t 31)
 (.seq (.reg false [⟨some 33, .fa 1 (.t 3), none⟩, ⟨some 34, .ld false 1 (.t 33), none⟩, ⟨some 35, .ld false 1 (.t 4), none⟩, ⟨some 36, .call (kf 57) [(.t 34), (.t 35), (kf 58)], none⟩, ⟨some 32, .mv (.t 36), none⟩, ⟨some 37, .ex (.t 32) 0, none⟩, ⟨some 38, .ex (.t 32) 1, none⟩, ⟨some 8, .mv (.t 37), none⟩, ⟨some 9, .mv (.t 38), none⟩])
 (.reg false [⟨some 39, .fa 1 (.t 3), none⟩, ⟨some 40, .ld false 1 (.t 39), none⟩, ⟨some 41, .mv (.t 8), none⟩, ⟨some 42, .ld false 1 (.t 4), none⟩, ⟨some 43, .mv (.t 2), none⟩, ⟨some 44, .bld [.string ⟨#[]⟩, .string ⟨#[]⟩] [(0, 1, (.t 42)), (1, 1, (.t 43))], none⟩, ⟨some 45, .bsl 83 2 1 [.string ⟨#[]⟩, .string ⟨#[]⟩] [(0, (.t 44))], none⟩, ⟨some 46, .call (kf 59) [(.t 40), (.t 41), (.t 45)], none⟩, ⟨some 47, .fa 1 (.t 3), none⟩, ⟨none, .st 1 (.t 47) (.t 46), none⟩]))
 .skip))
 (.seq (.seq (.reg false [⟨some 48, .fa 1 (.t 3), none⟩, ⟨some 49, .ld false 1 (.t 48), none⟩, ⟨some 50, .len (.t 49), none⟩, ⟨some 51, .bin .gtr (.t 50) (ki 4), none⟩])
 (.cond (.t 51)
 (.seq (.reg false [⟨some 52, .bld [.string ⟨#[]⟩, .slice none 0 0] [], none⟩, ⟨none, .st 2 (.t 6) (.t 52), none⟩, ⟨some 7, .mv (ki 6), none⟩])
 .ret)
 .skip))
 (.seq (.reg false [⟨some 53, .ld true 2 (.t 3), none⟩, ⟨none, .st 2 (.t 6) (.t 53), none⟩, ⟨some 7, .mv (ki 0), none⟩])
 .ret))))))
abbrev n_label_With : Nat := 19
theorem F_label_With : Fun Try.prog n_label_With 54 c_label_With [.l true 2 6, .t 7] := ⟨⟨Try.f19, _, Try.func19, by kernel_rfl, rfl, rfl, by kernel_rfl, by kernel_rfl⟩⟩
/-- windrose/windroseref03.Name -/
def c_windroseref03_Name : C :=
 (.seq (.reg false [⟨some 2, .mv (kb false), none⟩])
 (.seq (.seq (.reg false [⟨some 3, .mv (ki 0), none⟩])
 (.block 0 (.loop (.seq (.seq (.reg false [⟨some 4, .mv (.t 3), none⟩, ⟨some 5, .mv (.t 0), none⟩, ⟨some 6, .lens (.t 5), none⟩, ⟨some 7, .bin .lss (.t 4) (.t 6), none⟩])
 (.cond (.t 7)
 .skip
 (.exit 0)))
 (.seq (.block 1 (.seq (.reg false [⟨some 10, .mv (.t 0), none⟩, ⟨some 11, .mv (.t 3), none⟩, ⟨some 12, .ix (.t 10) (.t 11), none⟩, ⟨some 13, .bin .lss (.t 12) (.k (.one (.c (.v (.int .u8 97))))), none⟩, ⟨some 14, .mv (.t 13), none⟩, ⟨some 15, .mv (.t 0), some (14, false)⟩, ⟨some 16, .mv (.t 3), some (14, false)⟩, ⟨some 17, .ix (.t 15) (.t 16), some (14, false)⟩, ⟨some 18, .bin .gtr (.t 17) (.k (.one (.c (.v (.int .u8 122))))), some (14, false)⟩, ⟨some 19, .pick (.t 14) (kb true) (.t 18), none⟩])
 (.cond (.t 19)
 (.seq (.reg false [⟨some 2, .mv (kb false), none⟩])
 .ret)
 .skip)))
 (.reg false [⟨some 8, .mv (.t 3), none⟩, ⟨some 9, .bin .add (.t 8) (ki 1), none⟩, ⟨some 3, .mv (.t 9), none⟩]))))))
 (.seq (.reg false [⟨some 20, .mv (.t 0), none⟩, ⟨some 21, .lens (.t 20), none⟩, ⟨some 22, .bin .geq (.t 21) (ki 1), none⟩, ⟨some 23, .mv (.t 22), none⟩, ⟨some 24, .mv (.t 0), some (23, true)⟩, ⟨some 25, .lens (.t 24), some (23, true)⟩, ⟨some 26, .bin .leq (.t 25) (ki 16), some (23, true)⟩, ⟨some 27, .pick (.t 23) (.t 26) (kb false), none⟩, ⟨some 2, .mv (.t 27), none⟩])
 .ret)))
abbrev n_windroseref03_Name : Nat := 20
theorem F_windroseref03_Name : Fun Try.prog n_windroseref03_Name 28 c_windroseref03_Name [.t 2] := ⟨⟨Try.f20, _, Try.func20, by kernel_rfl, rfl, rfl, by kernel_rfl, by kernel_rfl⟩⟩
/-- windrose/windroseref03.Val -/
def c_windroseref03_Val : C :=
 (.seq (.reg false [⟨some 2, .mv (kb false), none⟩])
 (.seq (.seq (.reg false [⟨some 3, .mv (ki 0), none⟩])
 (.block 0 (.loop (.seq (.seq (.reg false [⟨some 4, .mv (.t 3), none⟩, ⟨some 5, .mv (.t 0), none⟩, ⟨some 6, .lens (.t 5), none⟩, ⟨some 7, .bin .lss (.t 4) (.t 6), none⟩])
 (.cond (.t 7)
 .skip
 (.exit 0)))
 (.seq (.block 1 (.seq (.reg false [⟨some 10, .mv (.t 0), none⟩, ⟨some 11, .mv (.t 3), none⟩, ⟨some 12, .ix (.t 10) (.t 11), none⟩, ⟨some 13, .bin .lss (.t 12) (.k (.one (.c (.v (.int .u8 32))))), none⟩, ⟨some 14, .mv (.t 13), none⟩, ⟨some 15, .mv (.t 0), some (14, false)⟩, ⟨some 16, .mv (.t 3), some (14, false)⟩, ⟨some 17, .ix (.t 15) (.t 16), some (14, false)⟩, ⟨some 18, .bin .gtr (.t 17) (.k (.one (.c (.v (.int .u8 126))))), some (14, false)⟩, ⟨some 19, .pick (.t 14) (kb true) (.t 18), none⟩])
 (.cond (.t 19)
 (.seq (.reg false [⟨some 2, .mv (kb false), none⟩])
 .ret)
 .skip)))
 (.reg false [⟨some 8, .mv (.t 3), none⟩, ⟨some 9, .bin .add (.t 8) (ki 1), none⟩, ⟨some 3, .mv (.t 9), none⟩]))))))
 (.seq (.reg false [⟨some 20, .mv (.t 0), none⟩, ⟨some 21, .lens (.t 20), none⟩, ⟨some 22, .bin .leq (.t 21) (ki 16), none⟩, ⟨some 2, .mv (.t 22), none⟩])
 .ret)))
abbrev n_windroseref03_Val : Nat := 21
theorem F_windroseref03_Val : Fun Try.prog n_windroseref03_Val 23 c_windroseref03_Val [.t 2] := ⟨⟨Try.f21, _, Try.func21, by kernel_rfl, rfl, rfl, by kernel_rfl, by kernel_rfl⟩⟩
/-- windrose/windroseref03.With -/
def c_windroseref03_With : C :=
 (.seq (.reg false [⟨some 3, .box 24 2 (.t 0), none⟩, ⟨some 6, .alloc 24 2 [.string ⟨#[]⟩, .slice none 0 0], none⟩])
 (.seq (.reg false [⟨some 10, .bsl 83 2 0 [.string ⟨#[]⟩, .string ⟨#[]⟩] [], none⟩, ⟨some 7, .mv (.t 10), none⟩])
 (.seq (.reg false [⟨some 11, .mv (.t 2), none⟩, ⟨some 12, .bin .eql (.t 11) (.k (.one (.c (.v (.string ⟨#[]⟩))))), none⟩, ⟨some 8, .mv (.t 12), none⟩])
 (.seq (.seq (.reg false [⟨some 9, .mv (ki 0), none⟩])
 (.block 0 (.loop (.seq (.seq (.reg false [⟨some 13, .mv (.t 9), none⟩, ⟨some 14, .fa 1 (.t 3), none⟩, ⟨some 15, .ld false 1 (.t 14), none⟩, ⟨some 16, .len (.t 15), none⟩, ⟨some 17, .bin .lss (.t 13) (.t 16), none⟩])
 (.cond (.t 17)
 .skip
 (.exit 0)))
 (.seq (.block 1 (.seq (.seq (.reg false [⟨some 20, .mv (.t 8), none⟩, ⟨some 21, .un .not (.t 20), none⟩, ⟨some 22, .mv (.t 21), none⟩, ⟨some 23, .fa 1 (.t 3), some (22, true)⟩, ⟨some 24, .ld false 1 (.t 23), some (22, true)⟩, ⟨some 25, .mv (.t 9), some (22, true)⟩, ⟨some 26, .ia 2 (.t 24) (.t 25), some (22, true)⟩, ⟨some 27, .fa 0 (.t 26), some (22, true)⟩, ⟨some 28, .ld false 1 (.t 27), some (22, true)⟩, ⟨some 29, .mv (.t 1), some (22, true)⟩, ⟨some 30, .bin .geq (.t 28) (.t 29), some (22, true)⟩, ⟨some 31, .pick (.t 22) (.t 30) (kb false), none⟩])
 (.cond (.t 31)
 (.seq (.reg false [⟨some 32, .mv (.t 7), none⟩, ⟨some 33, .mv (.t 1), none⟩, ⟨some 34, .mv (.t 2), none⟩, ⟨some 35, .bld [.string ⟨#[]⟩, .string ⟨#[]⟩] [(0, 1, (.t 33)), (1, 1, (.t 34))], none⟩, ⟨some 36, .bsl 83 2 1 [.string ⟨#[]⟩, .string ⟨#[]⟩] [(0, (.t 35))], none⟩, ⟨some 37, .app 83 2 32 [.string ⟨#[]⟩, .string ⟨#[]⟩] (.t 32) (.t 36), none⟩, ⟨some 7, .mv (.t 37), none⟩])
 (.reg false [⟨some 8, .mv (kb true), none⟩]))
 .skip))
 (.seq (.reg false [⟨some 38, .fa 1 (.t 3), none⟩, ⟨some 39, .ld false 1 (.t 38), none⟩, ⟨some 40, .mv (.t 9), none⟩, ⟨some 41, .ia 2 (.t 39) (.t 40), none⟩, ⟨some 42, .fa 0 (.t 41), none⟩, ⟨some 43, .ld false 1 (.t 42), none⟩, ⟨some 44, .mv (.t 1), none⟩, ⟨some 45, .bin .neq (.t 43) (.t 44), none⟩])
 (.cond (.t 45)
 (.reg false [⟨some 46, .mv (.t 7), none⟩, ⟨some 47, .fa 1 (.t 3), none⟩, ⟨some 48, .ld false 1 (.t 47), none⟩, ⟨some 49, .mv (.t 9), none⟩, ⟨some 50, .ia 2 (.t 48) (.t 49), none⟩, ⟨some 51, .ld true 2 (.t 50), none⟩, ⟨some 52, .bsl 83 2 1 [.string ⟨#[]⟩, .string ⟨#[]⟩] [(0, (.t 51))], none⟩, ⟨some 53, .app 83 2 32 [.string ⟨#[]⟩, .string ⟨#[]⟩] (.t 46) (.t 52), none⟩, ⟨some 7, .mv (.t 53), none⟩])
 .skip))))
 (.reg false [⟨some 18, .mv (.t 9), none⟩, ⟨some 19, .bin .add (.t 18) (ki 1), none⟩, ⟨some 9, .mv (.t 19), none⟩]))))))
 (.seq (.seq (.reg false [⟨some 54, .mv (.t 8), none⟩, ⟨some 55, .un .not (.t 54), none⟩])
 (.cond (.t 55)
 (.reg false [⟨some 56, .mv (.t 7), none⟩, ⟨some 57, .mv (.t 1), none⟩, ⟨some 58, .mv (.t 2), none⟩, ⟨some 59, .bld [.string ⟨#[]⟩, .string ⟨#[]⟩] [(0, 1, (.t 57)), (1, 1, (.t 58))], none⟩, ⟨some 60, .bsl 83 2 1 [.string ⟨#[]⟩, .string ⟨#[]⟩] [(0, (.t 59))], none⟩, ⟨some 61, .app 83 2 32 [.string ⟨#[]⟩, .string ⟨#[]⟩] (.t 56) (.t 60), none⟩, ⟨some 7, .mv (.t 61), none⟩])
 .skip))
 (.seq (.reg false [⟨some 62, .fa 0 (.t 3), none⟩, ⟨some 63, .ld false 1 (.t 62), none⟩, ⟨some 64, .mv (.t 7), none⟩, ⟨some 65, .bld [.string ⟨#[]⟩, .slice none 0 0] [(0, 1, (.t 63)), (1, 1, (.t 64))], none⟩, ⟨none, .st 2 (.t 6) (.t 65), none⟩])
 .ret))))))
abbrev n_windroseref03_With : Nat := 22
theorem F_windroseref03_With : Fun Try.prog n_windroseref03_With 66 c_windroseref03_With [.l true 2 6] := ⟨⟨Try.f22, _, Try.func22, by kernel_rfl, rfl, rfl, by kernel_rfl, by kernel_rfl⟩⟩
/-- windrose/label.Value -/
def c_label_Value : C :=
 (.seq (.reg false [⟨some 2, .box 24 2 (.t 0), none⟩, ⟨some 4, .mv (.k (.one (.c (.v (.string ⟨#[]⟩))))), none⟩])
 (.seq (.seq (.reg false [⟨some 7, .fa 1 (.t 2), none⟩, ⟨some 8, .ld false 1 (.t 7), none⟩, ⟨some 9, .len (.t 8), none⟩, ⟨some 10, .mv (ki 0), none⟩])
 (.block 0 (.loop (.seq (.reg false [⟨some 11, .bin .lss (.t 10) (.t 9), none⟩])
 (.seq (.cond (.t 11)
 .skip
 (.exit 0))
 (.seq (.block 1 (.seq (.reg false [⟨some 12, .ia 2 (.t 8) (.t 10), none⟩, ⟨some 13, .ld true 2 (.t 12), none⟩, ⟨some 6, .alloc 83 2 [.string ⟨#[]⟩, .string ⟨#[]⟩], none⟩, ⟨none, .st 2 (.t 6) (.t 13), none⟩])
 (.seq (.reg false [⟨some 14, .fa 0 (.t 6), none⟩, ⟨some 15, .ld false 1 (.t 14), none⟩, ⟨some 16, .mv (.t 1), none⟩, ⟨some 17, .bin .eql (.t 15) (.t 16), none⟩])
 (.cond (.t 17)
 (.seq (.reg false [⟨some 18, .fa 1 (.t 6), none⟩, ⟨some 19, .ld false 1 (.t 18), none⟩, ⟨some 4, .mv (.t 19), none⟩])
 .ret)
 .skip))))
 (.reg false [⟨some 20, .bin .add (.t 10) (ki 1), none⟩, ⟨some 10, .mv (.t 20), none⟩])))))))
 (.seq (.reg false [⟨some 4, .mv (.k (.one (.c (.v (.string ⟨#[]⟩))))), none⟩])
 .ret)))
abbrev n_label_Value : Nat := 23
theorem F_label_Value : Fun Try.prog n_label_Value 21 c_label_Value [.t 4] := ⟨⟨Try.f23, _, Try.func23, by kernel_rfl, rfl, rfl, by kernel_rfl, by kernel_rfl⟩⟩
/-- (*strings.Builder).WriteString -/
def c_strings_Builder_WriteString : C :=
 (.seq (.reg false [⟨some 4, .mv (ki 0), none⟩, ⟨some 5, .mv (.k (.one (.c (.v (.nilIface))))), none⟩])
 (.seq (.reg false [⟨some 6, .mv (.t 0), none⟩, ⟨some 7, .call (kf 80) [(.t 6)], none⟩])
 (.seq (.reg false [⟨some 8, .mv (.t 0), none⟩, ⟨some 9, .mv (.t 0), none⟩, ⟨some 10, .nilck (.t 9), none⟩, ⟨some 11, .fa 1 (.t 10), none⟩, ⟨some 12, .ld false 1 (.t 11), none⟩, ⟨some 13, .mv (.t 1), none⟩, ⟨some 14, .aps 5 (.t 12) (.t 13), none⟩, ⟨some 15, .nilck (.t 8), none⟩, ⟨some 16, .fa 1 (.t 15), none⟩, ⟨none, .st 1 (.t 16) (.t 14), none⟩])
 (.seq (.reg false [⟨some 17, .mv (.t 1), none⟩, ⟨some 18, .lens (.t 17), none⟩, ⟨some 4, .mv (.t 18), none⟩, ⟨some 5, .mv (.k (.one (.c (.v (.nilIface))))), none⟩])
 .ret))))
abbrev n_strings_Builder_WriteString : Nat := 41
theorem F_strings_Builder_WriteString : Fun Try.prog n_strings_Builder_WriteString 19 c_strings_Builder_WriteString [.t 4, .t 5] := ⟨⟨Try.f41, _, Try.func41, by kernel_rfl, rfl, rfl, by kernel_rfl, by kernel_rfl⟩⟩
/-- (*strings.Builder).WriteByte -/
def c_strings_Builder_WriteByte : C :=
 (.seq (.reg false [⟨some 4, .mv (.k (.one (.c (.v (.nilIface))))), none⟩])
 (.seq (.reg false [⟨some 5, .mv (.t 0), none⟩, ⟨some 6, .call (kf 80) [(.t 5)], none⟩])
 (.seq (.reg false [⟨some 7, .mv (.t 0), none⟩, ⟨some 8, .mv (.t 0), none⟩, ⟨some 9, .nilck (.t 8), none⟩, ⟨some 10, .fa 1 (.t 9), none⟩, ⟨some 11, .ld false 1 (.t 10), none⟩, ⟨some 12, .mv (.t 1), none⟩, ⟨some 13, .bsl 5 1 1 [.int .u8 0] [(0, (.t 12))], none⟩, ⟨some 14, .app 5 1 1 [.int .u8 0] (.t 11) (.t 13), none⟩, ⟨some 15, .nilck (.t 7), none⟩, ⟨some 16, .fa 1 (.t 15), none⟩, ⟨none, .st 1 (.t 16) (.t 14), none⟩])
 (.seq (.reg false [⟨some 4, .mv (.k (.one (.c (.v (.nilIface))))), none⟩])
 .ret))))
abbrev n_strings_Builder_WriteByte : Nat := 42
theorem F_strings_Builder_WriteByte : Fun Try.prog n_strings_Builder_WriteByte 17 c_strings_Builder_WriteByte [.t 4] := ⟨⟨Try.f42, _, Try.func42, by kernel_rfl, rfl, rfl, by kernel_rfl, by kernel_rfl⟩⟩
/-- (*strings.Builder).WriteRune -/
def c_strings_Builder_WriteRune : C :=
 (.seq (.reg false [⟨some 4, .mv (ki 0), none⟩, ⟨some 5, .mv (.k (.one (.c (.v (.nilIface))))), none⟩])
 (.seq (.reg false [⟨some 7, .mv (.t 0), none⟩, ⟨some 8, .call (kf 80) [(.t 7)], none⟩])
 (.seq (.reg false [⟨some 9, .mv (.t 0), none⟩, ⟨some 10, .nilck (.t 9), none⟩, ⟨some 11, .fa 1 (.t 10), none⟩, ⟨some 12, .ld false 1 (.t 11), none⟩, ⟨some 13, .len (.t 12), none⟩, ⟨some 6, .mv (.t 13), none⟩])
 (.seq (.reg false [⟨some 14, .mv (.t 0), none⟩, ⟨some 15, .mv (.t 0), none⟩, ⟨some 16, .nilck (.t 15), none⟩, ⟨some 17, .fa 1 (.t 16), none⟩, ⟨some 18, .ld false 1 (.t 17), none⟩, ⟨some 19, .mv (.t 1), none⟩, ⟨some 20, .call (kf 81) [(.t 18), (.t 19)], none⟩, ⟨some 21, .nilck (.t 14), none⟩, ⟨some 22, .fa 1 (.t 21), none⟩, ⟨none, .st 1 (.t 22) (.t 20), none⟩])
 (.seq (.reg false [⟨some 23, .mv (.t 0), none⟩, ⟨some 24, .nilck (.t 23), none⟩, ⟨some 25, .fa 1 (.t 24), none⟩, ⟨some 26, .ld false 1 (.t 25), none⟩, ⟨some 27, .len (.t 26), none⟩, ⟨some 28, .mv (.t 6), none⟩, ⟨some 29, .bin .sub (.t 27) (.t 28), none⟩, ⟨some 4, .mv (.t 29), none⟩, ⟨some 5, .mv (.k (.one (.c (.v (.nilIface))))), none⟩])
 .ret)))))
abbrev n_strings_Builder_WriteRune : Nat := 43
theorem F_strings_Builder_WriteRune : Fun Try.prog n_strings_Builder_WriteRune 30 c_strings_Builder_WriteRune [.t 4, .t 5] := ⟨⟨Try.f43, _, Try.func43, by kernel_rfl, rfl, rfl, by kernel_rfl, by kernel_rfl⟩⟩
/-- windrose/label.name -/
def c_label_name : C :=
 (.seq (.reg false [⟨some 2, .mv (kb false), none⟩])
 (.seq (.seq (.reg false [⟨some 5, .mv (.t 0), none⟩, ⟨some 6, .bin .eql (.t 5) (.k (.one (.c (.v (.string ⟨#[]⟩))))), none⟩, ⟨some 7, .mv (.t 6), none⟩, ⟨some 8, .mv (.t 0), some (7, false)⟩, ⟨some 9, .lens (.t 8), some (7, false)⟩, ⟨some 10, .bin .gtr (.t 9) (ki 16), some (7, false)⟩, ⟨some 11, .pick (.t 7) (kb true) (.t 10), none⟩])
 (.cond (.t 11)
 (.seq (.reg false [⟨some 2, .mv (kb false), none⟩])
 .ret)
 .skip))
 (.seq (.seq (.reg false [⟨some 12, .mv (.t 0), none⟩, ⟨some 13, .rng (.t 12), none⟩])
 (.block 0 (.loop (.seq (.reg false [⟨some 14, .nxt (.t 13), none⟩, ⟨some 15, .ex (.t 14) 0, none⟩])
 (.seq (.cond (.t 15)
 .skip
 (.exit 0))
 (.block 1 (.seq (.reg false [⟨some 16, .ex (.t 14) 2, none⟩, ⟨some 4, .mv (.t 16), none⟩])
 (.seq (.reg false [⟨some 17, .mv (.t 4), none⟩, ⟨some 18, .bin .lss (.t 17) (.k (.one (.c (.v (.int .i32 97))))), none⟩, ⟨some 19, .mv (.t 18), none⟩, ⟨some 20, .mv (.t 4), some (19, false)⟩, ⟨some 21, .bin .gtr (.t 20) (.k (.one (.c (.v (.int .i32 122))))), some (19, false)⟩, ⟨some 22, .pick (.t 19) (kb true) (.t 21), none⟩])
 (.cond (.t 22)
 (.seq (.reg false [⟨some 2, .mv (kb false), none⟩])
 .ret)
 .skip)))))))))
 (.seq (.reg false [⟨some 2, .mv (kb true), none⟩])
 .ret))))
abbrev n_label_name : Nat := 45
theorem F_label_name : Fun Try.prog n_label_name 23 c_label_name [.t 2] := ⟨⟨Try.f45, _, Try.func45, by kernel_rfl, rfl, rfl, by kernel_rfl, by kernel_rfl⟩⟩
/-- windrose/label.value -/
def c_label_value : C :=
 (.seq (.reg false [⟨some 2, .mv (kb false), none⟩])
 (.seq (.seq (.reg false [⟨some 4, .mv (.t 0), none⟩, ⟨some 5, .lens (.t 4), none⟩, ⟨some 6, .mv (ki 0), none⟩])
 (.block 0 (.loop (.seq (.reg false [⟨some 7, .bin .lss (.t 6) (.t 5), none⟩])
 (.seq (.cond (.t 7)
 .skip
 (.exit 0))
 (.seq (.block 1 (.seq (.reg false [⟨some 8, .mv (.t 6), none⟩, ⟨some 3, .mv (.t 8), none⟩])
 (.seq (.reg false [⟨some 9, .mv (.t 0), none⟩, ⟨some 10, .mv (.t 3), none⟩, ⟨some 11, .ix (.t 9) (.t 10), none⟩, ⟨some 12, .bin .lss (.t 11) (.k (.one (.c (.v (.int .u8 32))))), none⟩, ⟨some 13, .mv (.t 12), none⟩, ⟨some 14, .mv (.t 0), some (13, false)⟩, ⟨some 15, .mv (.t 3), some (13, false)⟩, ⟨some 16, .ix (.t 14) (.t 15), some (13, false)⟩, ⟨some 17, .bin .gtr (.t 16) (.k (.one (.c (.v (.int .u8 126))))), some (13, false)⟩, ⟨some 18, .pick (.t 13) (kb true) (.t 17), none⟩])
 (.cond (.t 18)
 (.seq (.reg false [⟨some 2, .mv (kb false), none⟩])
 .ret)
 .skip))))
 (.reg false [⟨some 19, .bin .add (.t 6) (ki 1), none⟩, ⟨some 6, .mv (.t 19), none⟩])))))))
 (.seq (.reg false [⟨some 20, .mv (.t 0), none⟩, ⟨some 21, .lens (.t 20), none⟩, ⟨some 22, .bin .leq (.t 21) (ki 16), none⟩, ⟨some 2, .mv (.t 22), none⟩])
 .ret)))
abbrev n_label_value : Nat := 46
theorem F_label_value : Fun Try.prog n_label_value 23 c_label_value [.t 2] := ⟨⟨Try.f46, _, Try.func46, by kernel_rfl, rfl, rfl, by kernel_rfl, by kernel_rfl⟩⟩
/-- windrose/label.quoted -/
def c_label_quoted : C :=
 (.seq (.reg false [⟨some 2, .mv (.k (.one (.c (.v (.string ⟨#[]⟩))))), none⟩, ⟨some 3, .mv (.k (.one (.c (.v (.string ⟨#[]⟩))))), none⟩, ⟨some 4, .mv (kb false), none⟩])
 (.seq (.reg false [⟨some 5, .mv (.k (.one (.c (.v (.slice none 0 0))))), none⟩])
 (.seq (.seq (.reg false [⟨some 6, .mv (ki 0), none⟩])
 (.block 0 (.loop (.seq (.seq (.reg false [⟨some 7, .mv (.t 6), none⟩, ⟨some 8, .mv (.t 0), none⟩, ⟨some 9, .lens (.t 8), none⟩, ⟨some 10, .bin .lss (.t 7) (.t 9), none⟩])
 (.cond (.t 10)
 .skip
 (.exit 0)))
 (.seq (.block 1 (.seq (.seq (.reg false [⟨some 13, .mv (.t 0), none⟩, ⟨some 14, .mv (.t 6), none⟩, ⟨some 15, .ix (.t 13) (.t 14), none⟩])
 (.block 2 (.seq (.reg false [⟨some 17, .bin .eql (.t 15) (.k (.one (.c (.v (.int .u8 34))))), none⟩, ⟨some 16, .mv (.t 17), none⟩])
 (.cond (.t 16)
 (.seq (.reg true [⟨some 18, .mv (.t 5), none⟩, ⟨some 19, .b2s (.t 18), none⟩, ⟨some 20, .mv (.t 0), none⟩, ⟨some 21, .mv (.t 6), none⟩, ⟨some 22, .bin .add (.t 21) (ki 1), none⟩, ⟨some 23, .sls (.t 20) (some (.t 22)) none, none⟩, ⟨some 2, .mv (.t 19), none⟩, ⟨some 3, .mv (.t 23), none⟩, ⟨some 4, .mv (kb true), none⟩])
 .ret)
 (.seq (.reg false [⟨some 25, .bin .eql (.t 15) (.k (.one (.c (.v (.int .u8 92))))), none⟩, ⟨some 24, .mv (.t 25), none⟩])
 (.cond (.t 24)
 (.seq (.reg false [⟨some 26, .mv (.t 6), none⟩, ⟨some 27, .bin .add (.t 26) (ki 1), none⟩, ⟨some 6, .mv (.t 27), none⟩])
 (.seq (.reg false [⟨some 28, .mv (.t 6), none⟩, ⟨some 29, .mv (.t 0), none⟩, ⟨some 30, .lens (.t 29), none⟩, ⟨some 31, .bin .eql (.t 28) (.t 30), none⟩, ⟨some 32, .mv (.t 31), none⟩, ⟨some 33, .mv (.t 0), some (32, false)⟩, ⟨some 34, .mv (.t 6), some (32, false)⟩, ⟨some 35, .ix (.t 33) (.t 34), some (32, false)⟩, ⟨some 36, .bin .neq (.t 35) (.k (.one (.c (.v (.int .u8 34))))), some (32, false)⟩, ⟨some 37, .mv (.t 36), some (32, false)⟩, ⟨some 38, .mv (.t 0), some (37, true)⟩, ⟨some 39, .mv (.t 6), some (37, true)⟩, ⟨some 40, .ix (.t 38) (.t 39), some (37, true)⟩, ⟨some 41, .bin .neq (.t 40) (.k (.one (.c (.v (.int .u8 92))))), some (37, true)⟩, ⟨some 42, .pick (.t 37) (.t 41) (kb false), some (32, false)⟩, ⟨some 43, .pick (.t 32) (kb true) (.t 42), none⟩])
 (.cond (.t 43)
 (.seq (.reg false [⟨some 2, .mv (.k (.one (.c (.v (.string ⟨#[]⟩))))), none⟩, ⟨some 3, .mv (.k (.one (.c (.v (.string ⟨#[]⟩))))), none⟩, ⟨some 4, .mv (kb false), none⟩])
 .ret)
 .skip)))
 .skip))))))
 (.reg false [⟨some 44, .mv (.t 5), none⟩, ⟨some 45, .mv (.t 0), none⟩, ⟨some 46, .mv (.t 6), none⟩, ⟨some 47, .ix (.t 45) (.t 46), none⟩, ⟨some 48, .bsl 5 1 1 [.int .u8 0] [(0, (.t 47))], none⟩, ⟨some 49, .app 5 1 1 [.int .u8 0] (.t 44) (.t 48), none⟩, ⟨some 5, .mv (.t 49), none⟩])))
 (.reg false [⟨some 11, .mv (.t 6), none⟩, ⟨some 12, .bin .add (.t 11) (ki 1), none⟩, ⟨some 6, .mv (.t 12), none⟩]))))))
 (.seq (.reg false [⟨some 2, .mv (.k (.one (.c (.v (.string ⟨#[]⟩))))), none⟩, ⟨some 3, .mv (.k (.one (.c (.v (.string ⟨#[]⟩))))), none⟩, ⟨some 4, .mv (kb false), none⟩])
 .ret))))
abbrev n_label_quoted : Nat := 48
theorem F_label_quoted : Fun Try.prog n_label_quoted 50 c_label_quoted [.t 2, .t 3, .t 4] := ⟨⟨Try.f48, _, Try.func48, by kernel_rfl, rfl, rfl, by kernel_rfl, by kernel_rfl⟩⟩
/-- slices.SortFunc[[]windrose/api.Label,windrose/api.Label] -/
def c_slices_SortFunc_api_Label_api_Label : C :=
 (.seq (.reg false [⟨some 5, .mv (.t 0), none⟩, ⟨some 6, .len (.t 5), none⟩, ⟨some 4, .mv (.t 6), none⟩])
 (.reg false [⟨some 7, .mv (.t 0), none⟩, ⟨some 8, .mv (.t 4), none⟩, ⟨some 9, .mv (.t 4), none⟩, ⟨some 10, .cvi .u64 (.t 9), none⟩, ⟨some 11, .call (kf 84) [(.t 10)], none⟩, ⟨some 12, .mv (.t 1), none⟩, ⟨some 13, .call (kf 83) [(.t 7), (ki 0), (.t 8), (.t 11), (.t 12)], none⟩]))
abbrev n_slices_SortFunc_api_Label_api_Label : Nat := 49
theorem F_slices_SortFunc_api_Label_api_Label : Fun Try.prog n_slices_SortFunc_api_Label_api_Label 14 c_slices_SortFunc_api_Label_api_Label [] := ⟨⟨Try.f49, _, Try.func49, by kernel_rfl, rfl, rfl, by kernel_rfl, by kernel_rfl⟩⟩
/-- windrose/label.Parse$1 -/
def c_label_Parse_1 : C :=
 (.seq (.reg false [⟨some 2, .box 83 2 (.t 0), none⟩, ⟨some 3, .box 83 2 (.t 1), none⟩, ⟨some 4, .mv (ki 0), none⟩])
 (.seq (.reg false [⟨some 5, .fa 0 (.t 2), none⟩, ⟨some 6, .ld false 1 (.t 5), none⟩, ⟨some 7, .fa 0 (.t 3), none⟩, ⟨some 8, .ld false 1 (.t 7), none⟩, ⟨some 9, .call (kf 51) [(.t 6), (.t 8)], none⟩, ⟨some 4, .mv (.t 9), none⟩])
 .ret))
abbrev n_label_Parse_1 : Nat := 50
theorem F_label_Parse_1 : Fun Try.prog n_label_Parse_1 10 c_label_Parse_1 [.t 4] := ⟨⟨Try.f50, _, Try.func50, by kernel_rfl, rfl, rfl, by kernel_rfl, by kernel_rfl⟩⟩
/-- strings.Compare -/
def c_strings_Compare : C :=
 (.seq (.reg false [⟨some 4, .mv (ki 0), none⟩])
 (.seq (.reg false [⟨some 5, .mv (.t 0), none⟩, ⟨some 6, .mv (.t 1), none⟩, ⟨some 7, .call (kf 85) [(.t 5), (.t 6)], none⟩, ⟨some 4, .mv (.t 7), none⟩])
 .ret))
abbrev n_strings_Compare : Nat := 51
theorem F_strings_Compare : Fun Try.prog n_strings_Compare 8 c_strings_Compare [.t 4] := ⟨⟨Try.f51, _, Try.func51, by kernel_rfl, rfl, rfl, by kernel_rfl, by kernel_rfl⟩⟩
/-- windrose/windroseref03.until -/
def c_windroseref03_until : C :=
 (.seq (.reg false [⟨some 6, .mv (ki 0), none⟩])
 (.seq (.block 0 (.loop (.seq (.seq (.reg false [⟨some 7, .mv (.t 1), none⟩, ⟨some 8, .mv (.t 0), none⟩, ⟨some 9, .lens (.t 8), none⟩, ⟨some 10, .bin .lss (.t 7) (.t 9), none⟩, ⟨some 11, .mv (.t 10), none⟩, ⟨some 12, .mv (.t 0), some (11, true)⟩, ⟨some 13, .mv (.t 1), some (11, true)⟩, ⟨some 14, .ix (.t 12) (.t 13), some (11, true)⟩, ⟨some 15, .mv (.t 2), some (11, true)⟩, ⟨some 16, .bin .neq (.t 14) (.t 15), some (11, true)⟩, ⟨some 17, .pick (.t 11) (.t 16) (kb false), none⟩])
 (.cond (.t 17)
 .skip
 (.exit 0)))
 (.block 1 (.reg false [⟨some 18, .mv (.t 1), none⟩, ⟨some 19, .bin .add (.t 18) (ki 1), none⟩, ⟨some 1, .mv (.t 19), none⟩])))))
 (.seq (.reg false [⟨some 20, .mv (.t 1), none⟩, ⟨some 6, .mv (.t 20), none⟩])
 .ret)))
abbrev n_windroseref03_until : Nat := 52
theorem F_windroseref03_until : Fun Try.prog n_windroseref03_until 21 c_windroseref03_until [.t 6] := ⟨⟨Try.f52, _, Try.func52, by kernel_rfl, rfl, rfl, by kernel_rfl, by kernel_rfl⟩⟩
/-- slices.Equal[[]windrose/api.Label,windrose/api.Label] -/
def c_slices_Equal_api_Label_api_Label : C :=
 (.seq (.reg false [⟨some 4, .mv (kb false), none⟩])
 (.seq (.seq (.reg false [⟨some 6, .mv (.t 0), none⟩, ⟨some 7, .len (.t 6), none⟩, ⟨some 8, .mv (.t 1), none⟩, ⟨some 9, .len (.t 8), none⟩, ⟨some 10, .bin .neq (.t 7) (.t 9), none⟩])
 (.cond (.t 10)
 (.seq (.reg false [⟨some 4, .mv (kb false), none⟩])
 .ret)
 .skip))
 (.seq (.seq (.reg false [⟨some 11, .mv (.t 0), none⟩, ⟨some 12, .len (.t 11), none⟩, ⟨some 13, .mv (ki 0), none⟩])
 (.block 0 (.loop (.seq (.reg false [⟨some 14, .bin .lss (.t 13) (.t 12), none⟩])
 (.seq (.cond (.t 14)
 .skip
 (.exit 0))
 (.seq (.block 1 (.seq (.reg false [⟨some 15, .mv (.t 13), none⟩, ⟨some 5, .mv (.t 15), none⟩])
 (.seq (.reg true [⟨some 16, .mv (.t 0), none⟩, ⟨some 17, .mv (.t 5), none⟩, ⟨some 18, .ia 2 (.t 16) (.t 17), none⟩, ⟨some 19, .ld true 2 (.t 18), none⟩, ⟨some 20, .mv (.t 1), none⟩, ⟨some 21, .mv (.t 5), none⟩, ⟨some 22, .ia 2 (.t 20) (.t 21), none⟩, ⟨some 23, .ld true 2 (.t 22), none⟩, ⟨some 24, .eqa [2, 2] true (.t 19) (.t 23), none⟩])
 (.cond (.t 24)
 (.seq (.reg false [⟨some 4, .mv (kb false), none⟩])
 .ret)
 .skip))))
 (.reg false [⟨some 25, .bin .add (.t 13) (ki 1), none⟩, ⟨some 13, .mv (.t 25), none⟩])))))))
 (.seq (.reg false [⟨some 4, .mv (kb true), none⟩])
 .ret))))
abbrev n_slices_Equal_api_Label_api_Label : Nat := 53
theorem F_slices_Equal_api_Label_api_Label : Fun Try.prog n_slices_Equal_api_Label_api_Label 26 c_slices_Equal_api_Label_api_Label [.t 4] := ⟨⟨Try.f53, _, Try.func53, by kernel_rfl, rfl, rfl, by kernel_rfl, by kernel_rfl⟩⟩
/-- slices.DeleteFunc[[]windrose/api.Label,windrose/api.Label] -/
def c_slices_DeleteFunc_api_Label_api_Label : C :=
 (.seq (.reg false [⟨some 4, .mv (.k (.one (.c (.v (.slice none 0 0))))), none⟩])
 (.seq (.reg false [⟨some 8, .mv (.t 0), none⟩, ⟨some 9, .mv (.t 1), none⟩, ⟨some 10, .call (kf 86) [(.t 8), (.t 9)], none⟩, ⟨some 5, .mv (.t 10), none⟩])
 (.seq (.seq (.reg false [⟨some 11, .mv (.t 5), none⟩, ⟨some 12, .bin .eql (.t 11) (ki (-1)), none⟩])
 (.cond (.t 12)
 (.seq (.reg false [⟨some 13, .mv (.t 0), none⟩, ⟨some 4, .mv (.t 13), none⟩])
 .ret)
 .skip))
 (.seq (.seq (.reg false [⟨some 14, .mv (.t 5), none⟩, ⟨some 15, .bin .add (.t 14) (ki 1), none⟩, ⟨some 6, .mv (.t 15), none⟩])
 (.block 0 (.loop (.seq (.seq (.reg false [⟨some 16, .mv (.t 6), none⟩, ⟨some 17, .mv (.t 0), none⟩, ⟨some 18, .len (.t 17), none⟩, ⟨some 19, .bin .lss (.t 16) (.t 18), none⟩])
 (.cond (.t 19)
 .skip
 (.exit 0)))
 (.seq (.block 1 (.seq (.reg false [⟨some 22, .mv (.t 0), none⟩, ⟨some 23, .mv (.t 6), none⟩, ⟨some 24, .ia 2 (.t 22) (.t 23), none⟩, ⟨some 25, .ld true 2 (.t 24), none⟩, ⟨some 7, .alloc 83 2 [.string ⟨#[]⟩, .string ⟨#[]⟩], none⟩, ⟨none, .st 2 (.t 7) (.t 25), none⟩])
 (.seq (.reg false [⟨some 26, .mv (.t 1), none⟩, ⟨some 27, .ld true 2 (.t 7), none⟩, ⟨some 28, .call (.t 26) [(.t 27)], none⟩, ⟨some 29, .un .not (.t 28), none⟩])
 (.cond (.t 29)
 (.seq (.reg false [⟨some 30, .mv (.t 0), none⟩, ⟨some 31, .mv (.t 5), none⟩, ⟨some 32, .ld true 2 (.t 7), none⟩, ⟨some 33, .ia 2 (.t 30) (.t 31), none⟩, ⟨none, .st 2 (.t 33) (.t 32), none⟩])
 (.reg false [⟨some 34, .mv (.t 5), none⟩, ⟨some 35, .bin .add (.t 34) (ki 1), none⟩, ⟨some 5, .mv (.t 35), none⟩]))
 .skip))))
 (.reg false [⟨some 20, .mv (.t 6), none⟩, ⟨some 21, .bin .add (.t 20) (ki 1), none⟩, ⟨some 6, .mv (.t 21), none⟩]))))))
 (.seq (.reg false [⟨some 36, .mv (.t 0), none⟩, ⟨some 37, .mv (.t 5), none⟩, ⟨some 38, .slc 2 (.t 36) (some (.t 37)) none, none⟩, ⟨none, .clr 2 [.string ⟨#[]⟩, .string ⟨#[]⟩] (.t 38), none⟩])
 (.seq (.reg false [⟨some 39, .mv (.t 0), none⟩, ⟨some 40, .mv (.t 5), none⟩, ⟨some 41, .slc 2 (.t 39) none (some (.t 40)), none⟩, ⟨some 4, .mv (.t 41), none⟩])
 .ret))))))
abbrev n_slices_DeleteFunc_api_Label_api_Label : Nat := 54
theorem F_slices_DeleteFunc_api_Label_api_Label : Fun Try.prog n_slices_DeleteFunc_api_Label_api_Label 42 c_slices_DeleteFunc_api_Label_api_Label [.t 4] := ⟨⟨Try.f54, _, Try.func54, by kernel_rfl, rfl, rfl, by kernel_rfl, by kernel_rfl⟩⟩
/-- slices.Clone[[]windrose/api.Label,windrose/api.Label] -/
def c_slices_Clone_api_Label_api_Label : C :=
 (.seq (.reg false [⟨some 2, .mv (.k (.one (.c (.v (.slice none 0 0))))), none⟩])
 (.seq (.seq (.reg false [⟨some 3, .mv (.t 0), none⟩, ⟨some 4, .eqb false (.t 3) (.k (.one (.c (.v (.slice none 0 0))))), none⟩])
 (.cond (.t 4)
 (.seq (.reg false [⟨some 2, .mv (.k (.one (.c (.v (.slice none 0 0))))), none⟩])
 .ret)
 .skip))
 (.seq (.reg false [⟨some 5, .bsl 83 2 0 [.string ⟨#[]⟩, .string ⟨#[]⟩] [], none⟩, ⟨some 6, .mv (.t 0), none⟩, ⟨some 7, .app 83 2 32 [.string ⟨#[]⟩, .string ⟨#[]⟩] (.t 5) (.t 6), none⟩, ⟨some 2, .mv (.t 7), none⟩])
 .ret)))
abbrev n_slices_Clone_api_Label_api_Label : Nat := 55
theorem F_slices_Clone_api_Label_api_Label : Fun Try.prog n_slices_Clone_api_Label_api_Label 8 c_slices_Clone_api_Label_api_Label [.t 2] := ⟨⟨Try.f55, _, Try.func55, by kernel_rfl, rfl, rfl, by kernel_rfl, by kernel_rfl⟩⟩
/-- windrose/label.With$1 -/
def c_label_With_1 : C :=
 (.seq (.reg false [⟨some 2, .box 83 2 (.t 0), none⟩, ⟨some 3, .mv (kb false), none⟩])
 (.seq (.reg false [⟨some 4, .fa 0 (.t 2), none⟩, ⟨some 5, .ld false 1 (.t 4), none⟩, ⟨some 6, .ld false 1 (.t 1), none⟩, ⟨some 7, .bin .eql (.t 5) (.t 6), none⟩, ⟨some 3, .mv (.t 7), none⟩])
 .ret))
abbrev n_label_With_1 : Nat := 56
theorem F_label_With_1 : Fun Try.prog n_label_With_1 8 c_label_With_1 [.t 3] := ⟨⟨Try.f56, _, Try.func56, by kernel_rfl, rfl, rfl, by kernel_rfl, by kernel_rfl⟩⟩
/-- slices.BinarySearchFunc[[]windrose/api.Label,windrose/api.Label,string] -/
def c_slices_BinarySearchFunc_api_Label_api_Label_string : C :=
 (.seq (.reg false [⟨some 6, .mv (ki 0), none⟩, ⟨some 7, .mv (kb false), none⟩])
 (.seq (.reg false [⟨some 12, .mv (.t 0), none⟩, ⟨some 13, .len (.t 12), none⟩, ⟨some 8, .mv (.t 13), none⟩])
 (.seq (.reg false [⟨some 14, .mv (.t 8), none⟩, ⟨some 9, .mv (ki 0), none⟩, ⟨some 10, .mv (.t 14), none⟩])
 (.seq (.block 0 (.loop (.seq (.seq (.reg false [⟨some 15, .mv (.t 9), none⟩, ⟨some 16, .mv (.t 10), none⟩, ⟨some 17, .bin .lss (.t 15) (.t 16), none⟩])
 (.cond (.t 17)
 .skip
 (.exit 0)))
 (.block 1 (.seq (.reg false [⟨some 18, .mv (.t 9), none⟩, ⟨some 19, .mv (.t 10), none⟩, ⟨some 20, .bin .add (.t 18) (.t 19), none⟩, ⟨some 21, .cvi .u64 (.t 20), none⟩, ⟨some 22, .bin .shr (.t 21) (.k (.one (.c (.v (.int .u64 1))))), none⟩, ⟨some 23, .cvi .i64 (.t 22), none⟩, ⟨some 11, .mv (.t 23), none⟩])
 (.seq (.reg false [⟨some 24, .mv (.t 2), none⟩, ⟨some 25, .mv (.t 0), none⟩, ⟨some 26, .mv (.t 11), none⟩, ⟨some 27, .ia 2 (.t 25) (.t 26), none⟩, ⟨some 28, .ld true 2 (.t 27), none⟩, ⟨some 29, .mv (.t 1), none⟩, ⟨some 30, .call (.t 24) [(.t 28), (.t 29)], none⟩, ⟨some 31, .bin .lss (.t 30) (ki 0), none⟩])
 (.cond (.t 31)
 (.reg false [⟨some 32, .mv (.t 11), none⟩, ⟨some 33, .bin .add (.t 32) (ki 1), none⟩, ⟨some 9, .mv (.t 33), none⟩])
 (.reg false [⟨some 34, .mv (.t 11), none⟩, ⟨some 10, .mv (.t 34), none⟩]))))))))
 (.seq (.reg false [⟨some 35, .mv (.t 9), none⟩, ⟨some 36, .mv (.t 9), none⟩, ⟨some 37, .mv (.t 8), none⟩, ⟨some 38, .bin .lss (.t 36) (.t 37), none⟩, ⟨some 39, .mv (.t 38), none⟩, ⟨some 40, .mv (.t 2), some (39, true)⟩, ⟨some 41, .mv (.t 0), some (39, true)⟩, ⟨some 42, .mv (.t 9), some (39, true)⟩, ⟨some 43, .ia 2 (.t 41) (.t 42), some (39, true)⟩, ⟨some 44, .ld true 2 (.t 43), some (39, true)⟩, ⟨some 45, .mv (.t 1), some (39, true)⟩, ⟨some 46, .call (.t 40) [(.t 44), (.t 45)], some (39, true)⟩, ⟨some 47, .bin .eql (.t 46) (ki 0), some (39, true)⟩, ⟨some 48, .pick (.t 39) (.t 47) (kb false), none⟩, ⟨some 6, .mv (.t 35), none⟩, ⟨some 7, .mv (.t 48), none⟩])
 .ret)))))
abbrev n_slices_BinarySearchFunc_api_Label_api_Label_string : Nat := 57
theorem F_slices_BinarySearchFunc_api_Label_api_Label_string : Fun Try.prog n_slices_BinarySearchFunc_api_Label_api_Label_string 49 c_slices_BinarySearchFunc_api_Label_api_Label_string [.t 6, .t 7] := ⟨⟨Try.f57, _, Try.func57, by kernel_rfl, rfl, rfl, by kernel_rfl, by kernel_rfl⟩⟩
/-- windrose/label.With$2 -/
def c_label_With_2 : C :=
 (.seq (.reg false [⟨some 2, .box 83 2 (.t 0), none⟩, ⟨some 4, .mv (ki 0), none⟩])
 (.seq (.reg false [⟨some 5, .fa 0 (.t 2), none⟩, ⟨some 6, .ld false 1 (.t 5), none⟩, ⟨some 7, .mv (.t 1), none⟩, ⟨some 8, .call (kf 51) [(.t 6), (.t 7)], none⟩, ⟨some 4, .mv (.t 8), none⟩])
 .ret))
abbrev n_label_With_2 : Nat := 58
theorem F_label_With_2 : Fun Try.prog n_label_With_2 9 c_label_With_2 [.t 4] := ⟨⟨Try.f58, _, Try.func58, by kernel_rfl, rfl, rfl, by kernel_rfl, by kernel_rfl⟩⟩
/-- slices.Insert[[]windrose/api.Label,windrose/api.Label] -/
def c_slices_Insert_api_Label_api_Label : C :=
 (.seq (.reg false [⟨some 6, .mv (.k (.one (.c (.v (.slice none 0 0))))), none⟩])
 (.seq (.reg false [⟨some 10, .mv (.t 0), none⟩, ⟨some 11, .mv (.t 1), none⟩, ⟨some 12, .slc 2 (.t 10) (some (.t 11)) none, none⟩])
 (.seq (.reg false [⟨some 13, .mv (.t 2), none⟩, ⟨some 14, .len (.t 13), none⟩, ⟨some 7, .mv (.t 14), none⟩])
 (.seq (.seq (.reg false [⟨some 15, .mv (.t 7), none⟩, ⟨some 16, .bin .eql (.t 15) (ki 0), none⟩])
 (.cond (.t 16)
 (.seq (.reg false [⟨some 17, .mv (.t 0), none⟩, ⟨some 6, .mv (.t 17), none⟩])
 .ret)
 .skip))
 (.seq (.reg false [⟨some 18, .mv (.t 0), none⟩, ⟨some 19, .len (.t 18), none⟩, ⟨some 8, .mv (.t 19), none⟩])
 (.seq (.seq (.reg false [⟨some 20, .mv (.t 1), none⟩, ⟨some 21, .mv (.t 8), none⟩, ⟨some 22, .bin .eql (.t 20) (.t 21), none⟩])
 (.cond (.t 22)
 (.seq (.reg false [⟨some 23, .mv (.t 0), none⟩, ⟨some 24, .mv (.t 2), none⟩, ⟨some 25, .app 83 2 32 [.string ⟨#[]⟩, .string ⟨#[]⟩] (.t 23) (.t 24), none⟩, ⟨some 6, .mv (.t 25), none⟩])
 .ret)
 .skip))
 (.seq (.seq (.reg false [⟨some 26, .mv (.t 8), none⟩, ⟨some 27, .mv (.t 7), none⟩, ⟨some 28, .bin .add (.t 26) (.t 27), none⟩, ⟨some 29, .mv (.t 0), none⟩, ⟨some 30, .cap (.t 29), none⟩, ⟨some 31, .bin .gtr (.t 28) (.t 30), none⟩])
 (.cond (.t 31)
 (.seq (.reg false [⟨some 32, .mv (.t 0), none⟩, ⟨some 33, .mv (.t 1), none⟩, ⟨some 34, .slc 2 (.t 32) none (some (.t 33)), none⟩, ⟨some 35, .mv (.t 8), none⟩, ⟨some 36, .mv (.t 7), none⟩, ⟨some 37, .bin .add (.t 35) (.t 36), none⟩, ⟨some 38, .mv (.t 1), none⟩, ⟨some 39, .bin .sub (.t 37) (.t 38), none⟩, ⟨some 40, .apz 83 2 32 [.string ⟨#[]⟩, .string ⟨#[]⟩] (.t 34) (.t 39), none⟩, ⟨some 9, .mv (.t 40), none⟩])
 (.seq (.reg false [⟨some 41, .mv (.t 9), none⟩, ⟨some 42, .mv (.t 1), none⟩, ⟨some 43, .slc 2 (.t 41) (some (.t 42)) none, none⟩, ⟨some 44, .mv (.t 2), none⟩, ⟨some 45, .cpy 2 (.t 43) (.t 44), none⟩])
 (.seq (.reg true [⟨some 46, .mv (.t 9), none⟩, ⟨some 47, .mv (.t 1), none⟩, ⟨some 48, .mv (.t 7), none⟩, ⟨some 49, .bin .add (.t 47) (.t 48), none⟩, ⟨some 50, .slc 2 (.t 46) (some (.t 49)) none, none⟩, ⟨some 51, .mv (.t 0), none⟩, ⟨some 52, .mv (.t 1), none⟩, ⟨some 53, .slc 2 (.t 51) (some (.t 52)) none, none⟩, ⟨some 54, .cpy 2 (.t 50) (.t 53), none⟩])
 (.seq (.reg false [⟨some 55, .mv (.t 9), none⟩, ⟨some 6, .mv (.t 55), none⟩])
 .ret))))
 .skip))
 (.seq (.reg false [⟨some 56, .mv (.t 0), none⟩, ⟨some 57, .mv (.t 8), none⟩, ⟨some 58, .mv (.t 7), none⟩, ⟨some 59, .bin .add (.t 57) (.t 58), none⟩, ⟨some 60, .slc 2 (.t 56) none (some (.t 59)), none⟩, ⟨some 0, .mv (.t 60), none⟩])
 (.seq (.seq (.reg false [⟨some 61, .mv (.t 2), none⟩, ⟨some 62, .mv (.t 0), none⟩, ⟨some 63, .mv (.t 1), none⟩, ⟨some 64, .mv (.t 7), none⟩, ⟨some 65, .bin .add (.t 63) (.t 64), none⟩, ⟨some 66, .slc 2 (.t 62) (some (.t 65)) none, none⟩, ⟨some 67, .call (kf 87) [(.t 61), (.t 66)], none⟩, ⟨some 68, .un .not (.t 67), none⟩])
 (.cond (.t 68)
 (.seq (.reg true [⟨some 69, .mv (.t 0), none⟩, ⟨some 70, .mv (.t 1), none⟩, ⟨some 71, .mv (.t 7), none⟩, ⟨some 72, .bin .add (.t 70) (.t 71), none⟩, ⟨some 73, .slc 2 (.t 69) (some (.t 72)) none, none⟩, ⟨some 74, .mv (.t 0), none⟩, ⟨some 75, .mv (.t 1), none⟩, ⟨some 76, .slc 2 (.t 74) (some (.t 75)) none, none⟩, ⟨some 77, .cpy 2 (.t 73) (.t 76), none⟩])
 (.seq (.reg false [⟨some 78, .mv (.t 0), none⟩, ⟨some 79, .mv (.t 1), none⟩, ⟨some 80, .slc 2 (.t 78) (some (.t 79)) none, none⟩, ⟨some 81, .mv (.t 2), none⟩, ⟨some 82, .cpy 2 (.t 80) (.t 81), none⟩])
 (.seq (.reg false [⟨some 83, .mv (.t 0), none⟩, ⟨some 6, .mv (.t 83), none⟩])
 .ret)))
 .skip))
 (.seq (.reg false [⟨some 84, .mv (.t 0), none⟩, ⟨some 85, .mv (.t 8), none⟩, ⟨some 86, .slc 2 (.t 84) (some (.t 85)) none, none⟩, ⟨some 87, .mv (.t 2), none⟩, ⟨some 88, .cpy 2 (.t 86) (.t 87), none⟩])
 (.seq (.reg false [⟨some 89, .mv (.t 0), none⟩, ⟨some 90, .mv (.t 1), none⟩, ⟨some 91, .slc 2 (.t 89) (some (.t 90)) none, none⟩, ⟨some 92, .mv (.t 7), none⟩, ⟨some 93, .call (kf 88) [(.t 91), (.t 92)], none⟩])
 (.seq (.reg false [⟨some 94, .mv (.t 0), none⟩, ⟨some 6, .mv (.t 94), none⟩])
 .ret))))))))))))
abbrev n_slices_Insert_api_Label_api_Label : Nat := 59
theorem F_slices_Insert_api_Label_api_Label : Fun Try.prog n_slices_Insert_api_Label_api_Label 95 c_slices_Insert_api_Label_api_Label [.t 6] := ⟨⟨Try.f59, _, Try.func59, by kernel_rfl, rfl, rfl, by kernel_rfl, by kernel_rfl⟩⟩
/-- unicode/utf8.AppendRune -/
def c_utf8_AppendRune : C :=
 (.seq (.reg false [⟨some 4, .mv (.k (.one (.c (.v (.slice none 0 0))))), none⟩])
 (.seq (.seq (.reg false [⟨some 5, .mv (.t 1), none⟩, ⟨some 6, .cvi .u32 (.t 5), none⟩, ⟨some 7, .bin .leq (.t 6) (.k (.one (.c (.v (.int .u32 127))))), none⟩])
 (.cond (.t 7)
 (.seq (.reg false [⟨some 8, .mv (.t 0), none⟩, ⟨some 9, .mv (.t 1), none⟩, ⟨some 10, .cvi .u8 (.t 9), none⟩, ⟨some 11, .bsl 5 1 1 [.int .u8 0] [(0, (.t 10))], none⟩, ⟨some 12, .app 5 1 1 [.int .u8 0] (.t 8) (.t 11), none⟩, ⟨some 4, .mv (.t 12), none⟩])
 .ret)
 .skip))
 (.seq (.reg false [⟨some 13, .mv (.t 0), none⟩, ⟨some 14, .mv (.t 1), none⟩, ⟨some 15, .call (kf 100) [(.t 13), (.t 14)], none⟩, ⟨some 4, .mv (.t 15), none⟩])
 .ret)))
abbrev n_utf8_AppendRune : Nat := 81
theorem F_utf8_AppendRune : Fun Try.prog n_utf8_AppendRune 16 c_utf8_AppendRune [.t 4] := ⟨⟨Try.f81, _, Try.func81, by kernel_rfl, rfl, rfl, by kernel_rfl, by kernel_rfl⟩⟩
/-- slices.pdqsortCmpFunc[windrose/api.Label] -/
def c_slices_pdqsortCmpFunc_api_Label : C :=
 (.seq (.reg false [⟨some 10, .mv (kb true), none⟩])
 (.seq (.reg false [⟨some 11, .mv (kb true), none⟩])
 (.block 0 (.loop (.block 1 (.seq (.reg false [⟨some 21, .mv (.t 2), none⟩, ⟨some 22, .mv (.t 1), none⟩, ⟨some 23, .bin .sub (.t 21) (.t 22), none⟩, ⟨some 12, .mv (.t 23), none⟩])
 (.seq (.seq (.reg false [⟨some 24, .mv (.t 12), none⟩, ⟨some 25, .bin .leq (.t 24) (ki 12), none⟩])
 (.cond (.t 25)
 (.seq (.reg false [⟨some 26, .mv (.t 0), none⟩, ⟨some 27, .mv (.t 1), none⟩, ⟨some 28, .mv (.t 2), none⟩, ⟨some 29, .mv (.t 4), none⟩, ⟨some 30, .call (kf 102) [(.t 26), (.t 27), (.t 28), (.t 29)], none⟩])
 .ret)
 .skip))
 (.seq (.seq (.reg false [⟨some 31, .mv (.t 3), none⟩, ⟨some 32, .bin .eql (.t 31) (ki 0), none⟩])
 (.cond (.t 32)
 (.seq (.reg false [⟨some 33, .mv (.t 0), none⟩, ⟨some 34, .mv (.t 1), none⟩, ⟨some 35, .mv (.t 2), none⟩, ⟨some 36, .mv (.t 4), none⟩, ⟨some 37, .call (kf 103) [(.t 33), (.t 34), (.t 35), (.t 36)], none⟩])
 .ret)
 .skip))
 (.seq (.seq (.reg false [⟨some 38, .mv (.t 10), none⟩, ⟨some 39, .un .not (.t 38), none⟩])
 (.cond (.t 39)
 (.seq (.reg false [⟨some 40, .mv (.t 0), none⟩, ⟨some 41, .mv (.t 1), none⟩, ⟨some 42, .mv (.t 2), none⟩, ⟨some 43, .mv (.t 4), none⟩, ⟨some 44, .call (kf 104) [(.t 40), (.t 41), (.t 42), (.t 43)], none⟩])
 (.reg false [⟨some 45, .mv (.t 3), none⟩, ⟨some 46, .bin .sub (.t 45) (ki 1), none⟩, ⟨some 3, .mv (.t 46), none⟩]))
 .skip))
 (.seq (.reg false [⟨some 48, .mv (.t 0), none⟩, ⟨some 49, .mv (.t 1), none⟩, ⟨some 50, .mv (.t 2), none⟩, ⟨some 51, .mv (.t 4), none⟩, ⟨some 52, .call (kf 105) [(.t 48), (.t 49), (.t 50), (.t 51)], none⟩, ⟨some 47, .mv (.t 52), none⟩, ⟨some 53, .ex (.t 47) 0, none⟩, ⟨some 54, .ex (.t 47) 1, none⟩, ⟨some 13, .mv (.t 53), none⟩, ⟨some 14, .mv (.t 54), none⟩])
 (.seq (.seq (.reg false [⟨some 55, .mv (.t 14), none⟩, ⟨some 56, .bin .eql (.t 55) (ki 2), none⟩])
 (.cond (.t 56)
 (.seq (.reg false [⟨some 57, .mv (.t 0), none⟩, ⟨some 58, .mv (.t 1), none⟩, ⟨some 59, .mv (.t 2), none⟩, ⟨some 60, .mv (.t 4), none⟩, ⟨some 61, .call (kf 106) [(.t 57), (.t 58), (.t 59), (.t 60)], none⟩])
 (.seq (.reg false [⟨some 62, .mv (.t 2), none⟩, ⟨some 63, .bin .sub (.t 62) (ki 1), none⟩, ⟨some 64, .mv (.t 13), none⟩, ⟨some 65, .mv (.t 1), none⟩, ⟨some 66, .bin .sub (.t 64) (.t 65), none⟩, ⟨some 67, .bin .sub (.t 63) (.t 66), none⟩, ⟨some 13, .mv (.t 67), none⟩])
 (.reg false [⟨some 14, .mv (ki 1), none⟩])))
 .skip))
 (.seq (.seq (.reg false [⟨some 68, .mv (.t 10), none⟩, ⟨some 69, .mv (.t 68), none⟩, ⟨some 70, .mv (.t 11), some (69, true)⟩, ⟨some 71, .pick (.t 69) (.t 70) (kb false), none⟩, ⟨some 72, .mv (.t 71), none⟩, ⟨some 73, .mv (.t 14), some (72, true)⟩, ⟨some 74, .bin .eql (.t 73) (ki 1), some (72, true)⟩, ⟨some 75, .pick (.t 72) (.t 74) (kb false), none⟩])
 (.cond (.t 75)
 (.seq (.reg false [⟨some 76, .mv (.t 0), none⟩, ⟨some 77, .mv (.t 1), none⟩, ⟨some 78, .mv (.t 2), none⟩, ⟨some 79, .mv (.t 4), none⟩, ⟨some 80, .call (kf 107) [(.t 76), (.t 77), (.t 78), (.t 79)], none⟩])
 (.cond (.t 80)
 .ret
 .skip))
 .skip))
 (.seq (.seq (.reg true [⟨some 81, .mv (.t 1), none⟩, ⟨some 82, .bin .gtr (.t 81) (ki 0), none⟩, ⟨some 83, .mv (.t 82), none⟩, ⟨some 84, .mv (.t 4), some (83, true)⟩, ⟨some 85, .mv (.t 0), some (83, true)⟩, ⟨some 86, .mv (.t 1), some (83, true)⟩, ⟨some 87, .bin .sub (.t 86) (ki 1), some (83, true)⟩, ⟨some 88, .ia 2 (.t 85) (.t 87), some (83, true)⟩, ⟨some 89, .ld true 2 (.t 88), some (83, true)⟩, ⟨some 90, .mv (.t 0), some (83, true)⟩, ⟨some 91, .mv (.t 13), some (83, true)⟩, ⟨some 92, .ia 2 (.t 90) (.t 91), some (83, true)⟩, ⟨some 93, .ld true 2 (.t 92), some (83, true)⟩, ⟨some 94, .call (.t 84) [(.t 89), (.t 93)], some (83, true)⟩, ⟨some 95, .bin .lss (.t 94) (ki 0), some (83, true)⟩, ⟨some 96, .un .not (.t 95), some (83, true)⟩, ⟨some 97, .pick (.t 83) (.t 96) (kb false), none⟩])
 (.cond (.t 97)
 (.seq (.reg false [⟨some 98, .mv (.t 0), none⟩, ⟨some 99, .mv (.t 1), none⟩, ⟨some 100, .mv (.t 2), none⟩, ⟨some 101, .mv (.t 13), none⟩, ⟨some 102, .mv (.t 4), none⟩, ⟨some 103, .call (kf 108) [(.t 98), (.t 99), (.t 100), (.t 101), (.t 102)], none⟩, ⟨some 15, .mv (.t 103), none⟩])
 (.seq (.reg false [⟨some 104, .mv (.t 15), none⟩, ⟨some 1, .mv (.t 104), none⟩])
 (.exit 1)))
 .skip))
 (.seq (.reg false [⟨some 106, .mv (.t 0), none⟩, ⟨some 107, .mv (.t 1), none⟩, ⟨some 108, .mv (.t 2), none⟩, ⟨some 109, .mv (.t 13), none⟩, ⟨some 110, .mv (.t 4), none⟩, ⟨some 111, .call (kf 109) [(.t 106), (.t 107), (.t 108), (.t 109), (.t 110)], none⟩, ⟨some 105, .mv (.t 111), none⟩, ⟨some 112, .ex (.t 105) 0, none⟩, ⟨some 113, .ex (.t 105) 1, none⟩, ⟨some 16, .mv (.t 112), none⟩, ⟨some 17, .mv (.t 113), none⟩])
 (.seq (.reg false [⟨some 114, .mv (.t 17), none⟩, ⟨some 11, .mv (.t 114), none⟩])
 (.seq (.reg false [⟨some 115, .mv (.t 16), none⟩, ⟨some 116, .mv (.t 1), none⟩, ⟨some 117, .bin .sub (.t 115) (.t 116), none⟩, ⟨some 118, .mv (.t 2), none⟩, ⟨some 119, .mv (.t 16), none⟩, ⟨some 120, .bin .sub (.t 118) (.t 119), none⟩, ⟨some 18, .mv (.t 117), none⟩, ⟨some 19, .mv (.t 120), none⟩])
 (.seq (.reg false [⟨some 121, .mv (.t 12), none⟩, ⟨some 122, .bin .quo (.t 121) (ki 8), none⟩, ⟨some 20, .mv (.t 122), none⟩])
 (.seq (.reg false [⟨some 123, .mv (.t 18), none⟩, ⟨some 124, .mv (.t 19), none⟩, ⟨some 125, .bin .lss (.t 123) (.t 124), none⟩])
 (.cond (.t 125)
 (.seq (.reg false [⟨some 126, .mv (.t 18), none⟩, ⟨some 127, .mv (.t 20), none⟩, ⟨some 128, .bin .geq (.t 126) (.t 127), none⟩, ⟨some 10, .mv (.t 128), none⟩])
 (.seq (.reg false [⟨some 129, .mv (.t 0), none⟩, ⟨some 130, .mv (.t 1), none⟩, ⟨some 131, .mv (.t 16), none⟩, ⟨some 132, .mv (.t 3), none⟩, ⟨some 133, .mv (.t 4), none⟩, ⟨some 134, .call (kf 83) [(.t 129), (.t 130), (.t 131), (.t 132), (.t 133)], none⟩])
 (.reg false [⟨some 135, .mv (.t 16), none⟩, ⟨some 136, .bin .add (.t 135) (ki 1), none⟩, ⟨some 1, .mv (.t 136), none⟩])))
 (.seq (.reg false [⟨some 137, .mv (.t 19), none⟩, ⟨some 138, .mv (.t 20), none⟩, ⟨some 139, .bin .geq (.t 137) (.t 138), none⟩, ⟨some 10, .mv (.t 139), none⟩])
 (.seq (.reg false [⟨some 140, .mv (.t 0), none⟩, ⟨some 141, .mv (.t 16), none⟩, ⟨some 142, .bin .add (.t 141) (ki 1), none⟩, ⟨some 143, .mv (.t 2), none⟩, ⟨some 144, .mv (.t 3), none⟩, ⟨some 145, .mv (.t 4), none⟩, ⟨some 146, .call (kf 83) [(.t 140), (.t 142), (.t 143), (.t 144), (.t 145)], none⟩])
 (.reg false [⟨some 147, .mv (.t 16), none⟩, ⟨some 2, .mv (.t 147), none⟩]))))))))))))))))))))))
abbrev n_slices_pdqsortCmpFunc_api_Label : Nat := 83
theorem F_slices_pdqsortCmpFunc_api_Label : Fun Try.prog n_slices_pdqsortCmpFunc_api_Label 148 c_slices_pdqsortCmpFunc_api_Label [] := ⟨⟨Try.f83, _, Try.func83, by kernel_rfl, rfl, rfl, by kernel_rfl, by kernel_rfl⟩⟩
/-- internal/bytealg.CompareString -/
def c_bytealg_CompareString : C :=
 (.seq (.reg false [⟨some 4, .mv (ki 0), none⟩])
 (.seq (.reg false [⟨some 5, .mv (.t 0), none⟩, ⟨some 6, .mv (.t 1), none⟩, ⟨some 7, .call (kf 112) [(.t 5), (.t 6)], none⟩, ⟨some 4, .mv (.t 7), none⟩])
 .ret))
abbrev n_bytealg_CompareString : Nat := 85
theorem F_bytealg_CompareString : Fun Try.prog n_bytealg_CompareString 8 c_bytealg_CompareString [.t 4] := ⟨⟨Try.f85, _, Try.func85, by kernel_rfl, rfl, rfl, by kernel_rfl, by kernel_rfl⟩⟩
/-- slices.IndexFunc[[]windrose/api.Label,windrose/api.Label] -/
def c_slices_IndexFunc_api_Label_api_Label : C :=
 (.seq (.reg false [⟨some 4, .mv (ki 0), none⟩])
 (.seq (.seq (.reg false [⟨some 6, .mv (.t 0), none⟩, ⟨some 7, .len (.t 6), none⟩, ⟨some 8, .mv (ki 0), none⟩])
 (.block 0 (.loop (.seq (.reg false [⟨some 9, .bin .lss (.t 8) (.t 7), none⟩])
 (.seq (.cond (.t 9)
 .skip
 (.exit 0))
 (.seq (.block 1 (.seq (.reg false [⟨some 10, .mv (.t 8), none⟩, ⟨some 5, .mv (.t 10), none⟩])
 (.seq (.reg false [⟨some 11, .mv (.t 1), none⟩, ⟨some 12, .mv (.t 0), none⟩, ⟨some 13, .mv (.t 5), none⟩, ⟨some 14, .ia 2 (.t 12) (.t 13), none⟩, ⟨some 15, .ld true 2 (.t 14), none⟩, ⟨some 16, .call (.t 11) [(.t 15)], none⟩])
 (.cond (.t 16)
 (.seq (.reg false [⟨some 17, .mv (.t 5), none⟩, ⟨some 4, .mv (.t 17), none⟩])
 .ret)
 .skip))))
 (.reg false [⟨some 18, .bin .add (.t 8) (ki 1), none⟩, ⟨some 8, .mv (.t 18), none⟩])))))))
 (.seq (.reg false [⟨some 4, .mv (ki (-1)), none⟩])
 .ret)))
abbrev n_slices_IndexFunc_api_Label_api_Label : Nat := 86
theorem F_slices_IndexFunc_api_Label_api_Label : Fun Try.prog n_slices_IndexFunc_api_Label_api_Label 19 c_slices_IndexFunc_api_Label_api_Label [.t 4] := ⟨⟨Try.f86, _, Try.func86, by kernel_rfl, rfl, rfl, by kernel_rfl, by kernel_rfl⟩⟩
/-- slices.insertionSortCmpFunc[windrose/api.Label] -/
def c_slices_insertionSortCmpFunc_api_Label : C :=
 (.seq (.reg false [⟨some 10, .mv (.t 1), none⟩, ⟨some 11, .bin .add (.t 10) (ki 1), none⟩, ⟨some 8, .mv (.t 11), none⟩])
 (.block 0 (.loop (.seq (.seq (.reg false [⟨some 12, .mv (.t 8), none⟩, ⟨some 13, .mv (.t 2), none⟩, ⟨some 14, .bin .lss (.t 12) (.t 13), none⟩])
 (.cond (.t 14)
 .skip
 (.exit 0)))
 (.seq (.block 1 (.seq (.reg false [⟨some 17, .mv (.t 8), none⟩, ⟨some 9, .mv (.t 17), none⟩])
 (.block 2 (.loop (.seq (.seq (.reg true [⟨some 18, .mv (.t 9), none⟩, ⟨some 19, .mv (.t 1), none⟩, ⟨some 20, .bin .gtr (.t 18) (.t 19), none⟩, ⟨some 21, .mv (.t 20), none⟩, ⟨some 22, .mv (.t 3), some (21, true)⟩, ⟨some 23, .mv (.t 0), some (21, true)⟩, ⟨some 24, .mv (.t 9), some (21, true)⟩, ⟨some 25, .ia 2 (.t 23) (.t 24), some (21, true)⟩, ⟨some 26, .ld true 2 (.t 25), some (21, true)⟩, ⟨some 27, .mv (.t 0), some (21, true)⟩, ⟨some 28, .mv (.t 9), some (21, true)⟩, ⟨some 29, .bin .sub (.t 28) (ki 1), some (21, true)⟩, ⟨some 30, .ia 2 (.t 27) (.t 29), some (21, true)⟩, ⟨some 31, .ld true 2 (.t 30), some (21, true)⟩, ⟨some 32, .call (.t 22) [(.t 26), (.t 31)], some (21, true)⟩, ⟨some 33, .bin .lss (.t 32) (ki 0), some (21, true)⟩, ⟨some 34, .pick (.t 21) (.t 33) (kb false), none⟩])
 (.cond (.t 34)
 .skip
 (.exit 2)))
 (.seq (.block 3 (.reg true [⟨some 37, .mv (.t 0), none⟩, ⟨some 38, .mv (.t 9), none⟩, ⟨some 39, .mv (.t 0), none⟩, ⟨some 40, .mv (.t 9), none⟩, ⟨some 41, .bin .sub (.t 40) (ki 1), none⟩, ⟨some 42, .mv (.t 0), none⟩, ⟨some 43, .mv (.t 9), none⟩, ⟨some 44, .bin .sub (.t 43) (ki 1), none⟩, ⟨some 45, .ia 2 (.t 42) (.t 44), none⟩, ⟨some 46, .ld true 2 (.t 45), none⟩, ⟨some 47, .mv (.t 0), none⟩, ⟨some 48, .mv (.t 9), none⟩, ⟨some 49, .ia 2 (.t 47) (.t 48), none⟩, ⟨some 50, .ld true 2 (.t 49), none⟩, ⟨some 51, .ia 2 (.t 37) (.t 38), none⟩, ⟨none, .st 2 (.t 51) (.t 46), none⟩, ⟨some 52, .ia 2 (.t 39) (.t 41), none⟩, ⟨none, .st 2 (.t 52) (.t 50), none⟩]))
 (.reg false [⟨some 35, .mv (.t 9), none⟩, ⟨some 36, .bin .sub (.t 35) (ki 1), none⟩, ⟨some 9, .mv (.t 36), none⟩])))))))
 (.reg false [⟨some 15, .mv (.t 8), none⟩, ⟨some 16, .bin .add (.t 15) (ki 1), none⟩, ⟨some 8, .mv (.t 16), none⟩]))))))
abbrev n_slices_insertionSortCmpFunc_api_Label : Nat := 102
theorem F_slices_insertionSortCmpFunc_api_Label : Fun Try.prog n_slices_insertionSortCmpFunc_api_Label 53 c_slices_insertionSortCmpFunc_api_Label [] := ⟨⟨Try.f102, _, Try.func102, by kernel_rfl, rfl, rfl, by kernel_rfl, by kernel_rfl⟩⟩
/-- windrose/windroselaw03.LabelPrints -/
def c_windroselaw03_LabelPrints : C :=
 (.seq (.reg false [⟨some 1, .box 24 2 (.t 0), none⟩, ⟨some 2, .mv (kb false), none⟩])
 (.seq (.seq (.reg false [⟨some 7, .ld true 2 (.t 1), none⟩, ⟨some 8, .call (kf 9) [(.t 7)], none⟩, ⟨some 9, .un .not (.t 8), none⟩])
 (.cond (.t 9)
 (.seq (.reg false [⟨some 10, .call (kf 10) [], none⟩, ⟨some 2, .mv (.t 10), none⟩])
 .ret)
 .skip))
 (.seq (.reg false [⟨some 12, .ld true 2 (.t 1), none⟩, ⟨some 13, .call (kf 11) [(.t 12)], none⟩, ⟨some 11, .mv (.t 13), none⟩, ⟨some 14, .ex (.t 11) 0, none⟩, ⟨some 15, .ex (.t 11) 1, none⟩, ⟨some 3, .mv (.t 14), none⟩, ⟨some 4, .mv (.t 15), none⟩])
 (.seq (.seq (.reg true [⟨some 16, .ld true 2 (.t 1), none⟩, ⟨some 17, .call (kf 12) [(.t 16)], none⟩, ⟨some 18, .bin .eql (.t 17) (ki 0), none⟩, ⟨some 19, .ld true 2 (.t 1), none⟩, ⟨some 20, .call (kf 13) [(.t 19)], none⟩, ⟨some 21, .eqb true (.t 18) (.t 20), none⟩])
 (.cond (.t 21)
 (.seq (.reg false [⟨some 2, .mv (kb false), none⟩])
 .ret)
 .skip))
 (.seq (.seq (.reg false [⟨some 22, .ld true 2 (.t 1), none⟩, ⟨some 23, .call (kf 13) [(.t 22)], none⟩, ⟨some 24, .un .not (.t 23), none⟩])
 (.cond (.t 24)
 (.seq (.reg false [⟨some 25, .mv (.t 4), none⟩, ⟨some 26, .bin .eql (.t 25) (ki 1), none⟩, ⟨some 27, .mv (.t 26), none⟩, ⟨some 28, .mv (.t 3), some (27, true)⟩, ⟨some 29, .bin .eql (.t 28) (.k (.one (.c (.v (.string ⟨#[]⟩))))), some (27, true)⟩, ⟨some 30, .pick (.t 27) (.t 29) (kb false), none⟩, ⟨some 31, .mv (.t 30), none⟩, ⟨some 32, .call (kf 10) [], some (31, true)⟩, ⟨some 33, .pick (.t 31) (.t 32) (kb false), none⟩, ⟨some 2, .mv (.t 33), none⟩])
 .ret)
 .skip))
 (.seq (.reg false [⟨some 35, .mv (.t 3), none⟩, ⟨some 36, .call (kf 14) [(.t 35)], none⟩, ⟨some 34, .mv (.t 36), none⟩, ⟨some 37, .ex (.t 34) 0, none⟩, ⟨some 38, .ex (.t 34) 1, none⟩, ⟨some 5, .alloc 24 2 [.string ⟨#[]⟩, .slice none 0 0], none⟩, ⟨none, .st 2 (.t 5) (.t 37), none⟩, ⟨some 6, .mv (.t 38), none⟩])
 (.seq (.reg false [⟨some 39, .mv (.t 4), none⟩, ⟨some 40, .bin .eql (.t 39) (ki 0), none⟩, ⟨some 41, .mv (.t 40), none⟩, ⟨some 42, .mv (.t 3), some (41, true)⟩, ⟨some 43, .ld true 2 (.t 1), some (41, true)⟩, ⟨some 44, .call (kf 15) [(.t 43)], some (41, true)⟩, ⟨some 45, .bin .eql (.t 42) (.t 44), some (41, true)⟩, ⟨some 46, .pick (.t 41) (.t 45) (kb false), none⟩, ⟨some 47, .mv (.t 46), none⟩, ⟨some 48, .mv (.t 6), some (47, true)⟩, ⟨some 49, .bin .eql (.t 48) (ki 0), some (47, true)⟩, ⟨some 50, .pick (.t 47) (.t 49) (kb false), none⟩, ⟨some 51, .mv (.t 50), none⟩, ⟨some 52, .ld true 2 (.t 5), some (51, true)⟩, ⟨some 53, .ld true 2 (.t 1), some (51, true)⟩, ⟨some 54, .call (kf 16) [(.t 52), (.t 53)], some (51, true)⟩, ⟨some 55, .pick (.t 51) (.t 54) (kb false), none⟩, ⟨some 56, .mv (.t 55), none⟩, ⟨some 57, .call (kf 10) [], some (56, true)⟩, ⟨some 58, .pick (.t 56) (.t 57) (kb false), none⟩, ⟨some 2, .mv (.t 58), none⟩])
 .ret)))))))
abbrev n_windroselaw03_LabelPrints : Nat := 3
theorem F_windroselaw03_LabelPrints : Fun Try.prog n_windroselaw03_LabelPrints 59 c_windroselaw03_LabelPrints [.t 2] := ⟨⟨Try.f3, _, Try.func3, by kernel_rfl, rfl, rfl, by kernel_rfl, by kernel_rfl⟩⟩
/-- windrose/windroselaw03.LabelParses -/
def c_windroselaw03_LabelParses : C :=
 (.seq (.reg false [⟨some 2, .mv (kb false), none⟩])
 (.seq (.seq (.reg false [⟨some 7, .mv (.t 0), none⟩, ⟨some 8, .lens (.t 7), none⟩, ⟨some 9, .bin .gtr (.t 8) (ki 2000), none⟩])
 (.cond (.t 9)
 (.seq (.reg false [⟨some 10, .call (kf 10) [], none⟩, ⟨some 2, .mv (.t 10), none⟩])
 .ret)
 .skip))
 (.seq (.reg false [⟨some 12, .mv (.t 0), none⟩, ⟨some 13, .call (kf 14) [(.t 12)], none⟩, ⟨some 11, .mv (.t 13), none⟩, ⟨some 14, .ex (.t 11) 0, none⟩, ⟨some 15, .ex (.t 11) 1, none⟩, ⟨some 3, .alloc 24 2 [.string ⟨#[]⟩, .slice none 0 0], none⟩, ⟨none, .st 2 (.t 3) (.t 14), none⟩, ⟨some 4, .mv (.t 15), none⟩])
 (.seq (.reg false [⟨some 17, .mv (.t 0), none⟩, ⟨some 18, .call (kf 17) [(.t 17)], none⟩, ⟨some 16, .mv (.t 18), none⟩, ⟨some 19, .ex (.t 16) 0, none⟩, ⟨some 20, .ex (.t 16) 1, none⟩, ⟨some 5, .alloc 24 2 [.string ⟨#[]⟩, .slice none 0 0], none⟩, ⟨none, .st 2 (.t 5) (.t 19), none⟩, ⟨some 6, .mv (.t 20), none⟩])
 (.seq (.seq (.reg false [⟨some 21, .mv (.t 6), none⟩, ⟨some 22, .un .not (.t 21), none⟩])
 (.cond (.t 22)
 (.seq (.reg false [⟨some 23, .mv (.t 4), none⟩, ⟨some 24, .bin .eql (.t 23) (ki 2), none⟩, ⟨some 25, .mv (.t 24), none⟩, ⟨some 26, .ld true 2 (.t 3), some (25, true)⟩, ⟨some 27, .bld [.string ⟨#[]⟩, .slice none 0 0] [], some (25, true)⟩, ⟨some 28, .call (kf 16) [(.t 26), (.t 27)], some (25, true)⟩, ⟨some 29, .pick (.t 25) (.t 28) (kb false), none⟩, ⟨some 30, .mv (.t 29), none⟩, ⟨some 31, .call (kf 10) [], some (30, true)⟩, ⟨some 32, .pick (.t 30) (.t 31) (kb false), none⟩, ⟨some 2, .mv (.t 32), none⟩])
 .ret)
 .skip))
 (.seq (.reg false [⟨some 33, .mv (.t 4), none⟩, ⟨some 34, .bin .eql (.t 33) (ki 0), none⟩, ⟨some 35, .mv (.t 34), none⟩, ⟨some 36, .ld true 2 (.t 3), some (35, true)⟩, ⟨some 37, .ld true 2 (.t 5), some (35, true)⟩, ⟨some 38, .call (kf 16) [(.t 36), (.t 37)], some (35, true)⟩, ⟨some 39, .pick (.t 35) (.t 38) (kb false), none⟩, ⟨some 40, .mv (.t 39), none⟩, ⟨some 41, .call (kf 10) [], some (40, true)⟩, ⟨some 42, .pick (.t 40) (.t 41) (kb false), none⟩, ⟨some 2, .mv (.t 42), none⟩])
 .ret))))))
abbrev n_windroselaw03_LabelParses : Nat := 4
theorem F_windroselaw03_LabelParses : Fun Try.prog n_windroselaw03_LabelParses 43 c_windroselaw03_LabelParses [.t 2] := ⟨⟨Try.f4, _, Try.func4, by kernel_rfl, rfl, rfl, by kernel_rfl, by kernel_rfl⟩⟩
/-- windrose/windroselaw03.LabelApart -/
def c_windroselaw03_LabelApart : C :=
 (.seq (.reg false [⟨some 2, .box 24 2 (.t 0), none⟩, ⟨some 3, .box 24 2 (.t 1), none⟩, ⟨some 4, .mv (kb false), none⟩])
 (.seq (.seq (.reg false [⟨some 10, .ld true 2 (.t 2), none⟩, ⟨some 11, .call (kf 9) [(.t 10)], none⟩, ⟨some 12, .un .not (.t 11), none⟩, ⟨some 13, .mv (.t 12), none⟩, ⟨some 14, .ld true 2 (.t 3), some (13, false)⟩, ⟨some 15, .call (kf 9) [(.t 14)], some (13, false)⟩, ⟨some 16, .un .not (.t 15), some (13, false)⟩, ⟨some 17, .pick (.t 13) (kb true) (.t 16), none⟩, ⟨some 18, .mv (.t 17), none⟩, ⟨some 19, .ld true 2 (.t 2), some (18, false)⟩, ⟨some 20, .call (kf 13) [(.t 19)], some (18, false)⟩, ⟨some 21, .un .not (.t 20), some (18, false)⟩, ⟨some 22, .pick (.t 18) (kb true) (.t 21), none⟩, ⟨some 23, .mv (.t 22), none⟩, ⟨some 24, .ld true 2 (.t 3), some (23, false)⟩, ⟨some 25, .call (kf 13) [(.t 24)], some (23, false)⟩, ⟨some 26, .un .not (.t 25), some (23, false)⟩, ⟨some 27, .pick (.t 23) (kb true) (.t 26), none⟩])
 (.cond (.t 27)
 (.seq (.reg false [⟨some 28, .call (kf 10) [], none⟩, ⟨some 4, .mv (.t 28), none⟩])
 .ret)
 .skip))
 (.seq (.reg false [⟨some 30, .ld true 2 (.t 2), none⟩, ⟨some 31, .call (kf 11) [(.t 30)], none⟩, ⟨some 29, .mv (.t 31), none⟩, ⟨some 32, .ex (.t 29) 0, none⟩, ⟨some 33, .ex (.t 29) 1, none⟩, ⟨some 5, .mv (.t 32), none⟩, ⟨some 6, .mv (.t 33), none⟩])
 (.seq (.reg false [⟨some 35, .ld true 2 (.t 3), none⟩, ⟨some 36, .call (kf 11) [(.t 35)], none⟩, ⟨some 34, .mv (.t 36), none⟩, ⟨some 37, .ex (.t 34) 0, none⟩, ⟨some 38, .ex (.t 34) 1, none⟩, ⟨some 7, .mv (.t 37), none⟩, ⟨some 8, .mv (.t 38), none⟩])
 (.seq (.reg false [⟨some 39, .ld true 2 (.t 2), none⟩, ⟨some 40, .ld true 2 (.t 3), none⟩, ⟨some 41, .call (kf 16) [(.t 39), (.t 40)], none⟩, ⟨some 9, .mv (.t 41), none⟩])
 (.seq (.reg false [⟨some 42, .mv (.t 6), none⟩, ⟨some 43, .bin .eql (.t 42) (ki 0), none⟩, ⟨some 44, .mv (.t 43), none⟩, ⟨some 45, .mv (.t 8), some (44, true)⟩, ⟨some 46, .bin .eql (.t 45) (ki 0), some (44, true)⟩, ⟨some 47, .pick (.t 44) (.t 46) (kb false), none⟩, ⟨some 48, .mv (.t 47), none⟩, ⟨some 49, .mv (.t 5), some (48, true)⟩, ⟨some 50, .mv (.t 7), some (48, true)⟩, ⟨some 51, .bin .eql (.t 49) (.t 50), some (48, true)⟩, ⟨some 52, .mv (.t 9), some (48, true)⟩, ⟨some 53, .eqb false (.t 51) (.t 52), some (48, true)⟩, ⟨some 54, .pick (.t 48) (.t 53) (kb false), none⟩, ⟨some 55, .mv (.t 54), none⟩, ⟨some 56, .ld true 2 (.t 2), some (55, true)⟩, ⟨some 57, .ld true 2 (.t 3), some (55, true)⟩, ⟨some 58, .call (kf 18) [(.t 56), (.t 57)], some (55, true)⟩, ⟨some 59, .mv (.t 9), some (55, true)⟩, ⟨some 60, .eqb false (.t 58) (.t 59), some (55, true)⟩, ⟨some 61, .pick (.t 55) (.t 60) (kb false), none⟩, ⟨some 62, .mv (.t 61), none⟩, ⟨some 63, .call (kf 10) [], some (62, true)⟩, ⟨some 64, .pick (.t 62) (.t 63) (kb false), none⟩, ⟨some 4, .mv (.t 64), none⟩])
 .ret))))))
abbrev n_windroselaw03_LabelApart : Nat := 5
theorem F_windroselaw03_LabelApart : Fun Try.prog n_windroselaw03_LabelApart 65 c_windroselaw03_LabelApart [.t 4] := ⟨⟨Try.f5, _, Try.func5, by kernel_rfl, rfl, rfl, by kernel_rfl, by kernel_rfl⟩⟩
/-- windrose/windroselaw03.LabelWith -/
def c_windroselaw03_LabelWith : C :=
 (.seq (.reg false [⟨some 3, .box 24 2 (.t 0), none⟩, ⟨some 6, .mv (kb false), none⟩])
 (.seq (.seq (.reg false [⟨some 10, .ld true 2 (.t 3), none⟩, ⟨some 11, .call (kf 9) [(.t 10)], none⟩, ⟨some 12, .un .not (.t 11), none⟩, ⟨some 13, .mv (.t 12), none⟩, ⟨some 14, .mv (.t 1), some (13, false)⟩, ⟨some 15, .lens (.t 14), some (13, false)⟩, ⟨some 16, .bin .gtr (.t 15) (ki 3000), some (13, false)⟩, ⟨some 17, .pick (.t 13) (kb true) (.t 16), none⟩, ⟨some 18, .mv (.t 17), none⟩, ⟨some 19, .mv (.t 2), some (18, false)⟩, ⟨some 20, .lens (.t 19), some (18, false)⟩, ⟨some 21, .bin .gtr (.t 20) (ki 3000), some (18, false)⟩, ⟨some 22, .pick (.t 18) (kb true) (.t 21), none⟩])
 (.cond (.t 22)
 (.seq (.reg false [⟨some 23, .call (kf 10) [], none⟩, ⟨some 6, .mv (.t 23), none⟩])
 .ret)
 .skip))
 (.seq (.reg false [⟨some 25, .ld true 2 (.t 3), none⟩, ⟨some 26, .mv (.t 1), none⟩, ⟨some 27, .mv (.t 2), none⟩, ⟨some 28, .call (kf 19) [(.t 25), (.t 26), (.t 27)], none⟩, ⟨some 24, .mv (.t 28), none⟩, ⟨some 29, .ex (.t 24) 0, none⟩, ⟨some 30, .ex (.t 24) 1, none⟩, ⟨some 7, .alloc 24 2 [.string ⟨#[]⟩, .slice none 0 0], none⟩, ⟨none, .st 2 (.t 7) (.t 29), none⟩, ⟨some 8, .mv (.t 30), none⟩])
 (.seq (.seq (.reg false [⟨some 31, .ld true 2 (.t 3), none⟩, ⟨some 32, .call (kf 13) [(.t 31)], none⟩, ⟨some 33, .un .not (.t 32), none⟩, ⟨some 34, .mv (.t 33), none⟩, ⟨some 35, .mv (.t 1), some (34, false)⟩, ⟨some 36, .call (kf 20) [(.t 35)], some (34, false)⟩, ⟨some 37, .un .not (.t 36), some (34, false)⟩, ⟨some 38, .pick (.t 34) (kb true) (.t 37), none⟩, ⟨some 39, .mv (.t 38), none⟩, ⟨some 40, .mv (.t 2), some (39, false)⟩, ⟨some 41, .call (kf 21) [(.t 40)], some (39, false)⟩, ⟨some 42, .un .not (.t 41), some (39, false)⟩, ⟨some 43, .pick (.t 39) (kb true) (.t 42), none⟩])
 (.cond (.t 43)
 (.seq (.reg false [⟨some 44, .mv (.t 8), none⟩, ⟨some 45, .bin .eql (.t 44) (ki 1), none⟩, ⟨some 46, .mv (.t 45), none⟩, ⟨some 47, .ld true 2 (.t 7), some (46, true)⟩, ⟨some 48, .bld [.string ⟨#[]⟩, .slice none 0 0] [], some (46, true)⟩, ⟨some 49, .call (kf 16) [(.t 47), (.t 48)], some (46, true)⟩, ⟨some 50, .pick (.t 46) (.t 49) (kb false), none⟩, ⟨some 51, .mv (.t 50), none⟩, ⟨some 52, .call (kf 10) [], some (51, true)⟩, ⟨some 53, .pick (.t 51) (.t 52) (kb false), none⟩, ⟨some 6, .mv (.t 53), none⟩])
 .ret)
 .skip))
 (.seq (.reg false [⟨some 54, .ld true 2 (.t 3), none⟩, ⟨some 55, .mv (.t 1), none⟩, ⟨some 56, .mv (.t 2), none⟩, ⟨some 57, .call (kf 22) [(.t 54), (.t 55), (.t 56)], none⟩, ⟨some 9, .alloc 24 2 [.string ⟨#[]⟩, .slice none 0 0], none⟩, ⟨none, .st 2 (.t 9) (.t 57), none⟩])
 (.seq (.seq (.reg false [⟨some 58, .fa 1 (.t 9), none⟩, ⟨some 59, .ld false 1 (.t 58), none⟩, ⟨some 60, .len (.t 59), none⟩, ⟨some 61, .bin .gtr (.t 60) (ki 4), none⟩])
 (.cond (.t 61)
 (.seq (.reg false [⟨some 62, .mv (.t 8), none⟩, ⟨some 63, .bin .eql (.t 62) (ki 6), none⟩, ⟨some 64, .mv (.t 63), none⟩, ⟨some 65, .ld true 2 (.t 7), some (64, true)⟩, ⟨some 66, .bld [.string ⟨#[]⟩, .slice none 0 0] [], some (64, true)⟩, ⟨some 67, .call (kf 16) [(.t 65), (.t 66)], some (64, true)⟩, ⟨some 68, .pick (.t 64) (.t 67) (kb false), none⟩, ⟨some 69, .mv (.t 68), none⟩, ⟨some 70, .call (kf 10) [], some (69, true)⟩, ⟨some 71, .pick (.t 69) (.t 70) (kb false), none⟩, ⟨some 6, .mv (.t 71), none⟩])
 .ret)
 .skip))
 (.seq (.reg false [⟨some 72, .mv (.t 8), none⟩, ⟨some 73, .bin .eql (.t 72) (ki 0), none⟩, ⟨some 74, .mv (.t 73), none⟩, ⟨some 75, .ld true 2 (.t 7), some (74, true)⟩, ⟨some 76, .ld true 2 (.t 9), some (74, true)⟩, ⟨some 77, .call (kf 16) [(.t 75), (.t 76)], some (74, true)⟩, ⟨some 78, .pick (.t 74) (.t 77) (kb false), none⟩, ⟨some 79, .mv (.t 78), none⟩, ⟨some 80, .ld true 2 (.t 7), some (79, true)⟩, ⟨some 81, .mv (.t 1), some (79, true)⟩, ⟨some 82, .call (kf 23) [(.t 80), (.t 81)], some (79, true)⟩, ⟨some 83, .mv (.t 2), some (79, true)⟩, ⟨some 84, .bin .eql (.t 82) (.t 83), some (79, true)⟩, ⟨some 85, .pick (.t 79) (.t 84) (kb false), none⟩, ⟨some 86, .mv (.t 85), none⟩, ⟨some 87, .call (kf 10) [], some (86, true)⟩, ⟨some 88, .pick (.t 86) (.t 87) (kb false), none⟩, ⟨some 6, .mv (.t 88), none⟩])
 .ret)))))))
abbrev n_windroselaw03_LabelWith : Nat := 6
theorem F_windroselaw03_LabelWith : Fun Try.prog n_windroselaw03_LabelWith 89 c_windroselaw03_LabelWith [.t 6] := ⟨⟨Try.f6, _, Try.func6, by kernel_rfl, rfl, rfl, by kernel_rfl, by kernel_rfl⟩⟩
end Go.Proofs.Ytioefecijidgkaa.A
