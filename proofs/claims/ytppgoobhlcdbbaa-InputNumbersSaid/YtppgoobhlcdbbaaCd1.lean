/- The code of the functions that are reached, as the interpreter reads it. -/
import Derived.Test.YtppgoobhlcdbbaaCd0
set_option maxRecDepth 100000
set_option linter.defProp false
namespace Go.Proofs.Ytppgoobhlcdbbaa.Cd
open Go Go.Dx
/- pianola/pianolalaw10.LinesNumbers -/
def c0_pianolalaw10_LinesNumbers : C :=
 .seq (.block 1
  (.ops [⟨some 7, none, .mov (.t 1)⟩,
  ⟨some 8, none, .mov (.t 2)⟩,
  ⟨some 9, none, .bin .rem (.t 8) (.c (.int .i64 4))⟩,
  ⟨some 10, none, .mov (.t 2)⟩,
  ⟨some 11, none, .bin .rem (.t 10) (.c (.int .i64 9))⟩,
  ⟨some 12, none, .bin .sub (.t 11) (.c (.int .i64 1))⟩,
  ⟨some 13, none, .mov (.t 2)⟩,
  ⟨some 14, none, .bin .rem (.t 13) (.c (.int .i64 3))⟩,
  ⟨some 15, none, .bin .gtr (.t 14) (.c (.int .i64 0))⟩,
  ⟨some 16, none, .mov (.t 2)⟩,
  ⟨some 17, none, .bin .rem (.t 16) (.c (.int .i64 20))⟩,
  ⟨some 18, none, .conv .u32 (.t 17)⟩,
  ⟨some 19, none, .mov (.t 2)⟩,
  ⟨some 20, none, .conv .u32 (.t 19)⟩,
  ⟨some 21, none, .bin .mul (.t 20) (.c (.int .u32 17))⟩,
  ⟨some 22, none, .mov (.t 2)⟩,
  ⟨some 23, none, .mov (.t 2)⟩,
  ⟨some 24, none, .bin .rem (.t 23) (.c (.int .i64 40))⟩,
  ⟨some 25, none, .conv .u64 (.t 24)⟩,
  ⟨some 26, none, .bin .shl (.t 22) (.t 25)⟩,
  ⟨some 27, none, .build [(.int .i64 0), (.int .i64 0), (.bool false), (.int .u32 0), (.int .u32 0), (.int .i64 0)] [(0, 1, (.t 9)), (1, 1, (.t 12)), (2, 1, (.t 15)), (3, 1, (.t 18)), (4, 1, (.t 21)), (5, 1, (.t 26))]⟩,
  ⟨some 28, none, .bsl 1 [(.int .i64 0), (.int .i64 0), (.bool false), (.int .u32 0), (.int .u32 0), (.int .i64 0)] [(0, 6, (.t 27))]⟩,
  ⟨some 29, none, .app 6 40 (.t 7) (.t 28)⟩,
  ⟨some 1, none, .mov (.t 29)⟩]))
  (.ops [⟨some 5, none, .mov (.t 2)⟩,
  ⟨some 6, none, .bin .add (.t 5) (.c (.int .i64 1))⟩,
  ⟨some 2, none, .mov (.t 6)⟩])
def c1_pianolalaw10_LinesNumbers : C :=
 .seq (.seq (.ops [⟨some 3, none, .mov (.t 2)⟩,
  ⟨some 4, none, .bin .lss (.t 3) (.c (.int .i64 60))⟩])
  (.cond (.t 4)
  (.skip)
  (.exit 0)))
  (c0_pianolalaw10_LinesNumbers)
def c2_pianolalaw10_LinesNumbers : C :=
 .seq (.seq (.ops [⟨some 2, none, .mov (.c (.int .i64 0))⟩])
  (.block 0
  (.loop c1_pianolalaw10_LinesNumbers)))
  (.seq (.ops [⟨some 30, none, .mov (.t 1)⟩,
  ⟨some 31, none, .call n_pianolalaw10_LinesPlays [(.t 30)]⟩,
  ⟨some 32, none, .mov (.t 31)⟩,
  ⟨some 33, some (32, true), .call n_pianolalaw10_known []⟩,
  ⟨some 34, none, .pick (.t 32) (.t 33) (.c (.bool false))⟩,
  ⟨some 0, none, .mov (.t 34)⟩])
  (.ret))
def c_pianolalaw10_LinesNumbers : C :=
 .seq (.ops [⟨some 0, none, .mov (.c (.bool false))⟩])
  (.seq (.ops [⟨some 1, none, .mov (.c (.slice none 0 0))⟩])
  (c2_pianolalaw10_LinesNumbers))
def f_pianolalaw10_LinesNumbers : F := ⟨c_pianolalaw10_LinesNumbers, [.t 0], some []⟩
theorem h_pianolalaw10_LinesNumbers : compF Try.prog (compAny Try.prog) n_pianolalaw10_LinesNumbers = some (f_pianolalaw10_LinesNumbers.body, f_pianolalaw10_LinesNumbers.res) := by kernel_rfl
/- pianola/pianolalaw10.LinesPlays -/
def c0_pianolalaw10_LinesPlays : C :=
 .seq (.ops [⟨some 54, none, .fa 2 (.t 7)⟩,
  ⟨some 55, none, .ld (.t 54)⟩])
  (.cond (.t 55)
  (.ops [⟨some 56, none, .mov (.t 4)⟩,
  ⟨some 57, none, .fa 1 (.t 7)⟩,
  ⟨some 58, none, .ld (.t 57)⟩,
  ⟨some 59, none, .conv .u64 (.t 58)⟩,
  ⟨some 60, none, .bin .shl (.c (.int .u32 1)) (.t 59)⟩,
  ⟨some 61, none, .bin .or (.t 56) (.t 60)⟩,
  ⟨some 4, none, .mov (.t 61)⟩])
  (.skip))
def c1_pianolalaw10_LinesPlays : C :=
 .cond (.t 47)
  (.seq (.ops [⟨some 48, none, .mov (.t 4)⟩,
  ⟨some 49, none, .fa 1 (.t 7)⟩,
  ⟨some 50, none, .ld (.t 49)⟩,
  ⟨some 51, none, .conv .u64 (.t 50)⟩,
  ⟨some 52, none, .bin .shl (.c (.int .u32 1)) (.t 51)⟩,
  ⟨some 53, none, .bin .andNot (.t 48) (.t 52)⟩,
  ⟨some 4, none, .mov (.t 53)⟩])
  (c0_pianolalaw10_LinesPlays))
  (.skip)
def c2_pianolalaw10_LinesPlays : C :=
 .seq (.ops [⟨some 40, none, .fa 1 (.t 7)⟩,
  ⟨some 41, none, .ld (.t 40)⟩,
  ⟨some 42, none, .bin .geq (.t 41) (.c (.int .i64 1))⟩,
  ⟨some 43, none, .mov (.t 42)⟩,
  ⟨some 44, some (43, true), .fa 1 (.t 7)⟩,
  ⟨some 45, some (43, true), .ld (.t 44)⟩,
  ⟨some 46, some (43, true), .bin .leq (.t 45) (.c (.int .i64 5))⟩,
  ⟨some 47, none, .pick (.t 43) (.t 46) (.c (.bool false))⟩])
  (c1_pianolalaw10_LinesPlays)
def c3_pianolalaw10_LinesPlays : C :=
 .seq (.seq (.ops [⟨some 84, none, .mov (.t 3)⟩,
  ⟨some 85, none, .mov (.t 8)⟩,
  ⟨some 86, none, .fa 4 (.t 7)⟩,
  ⟨some 87, none, .ld (.t 86)⟩,
  ⟨some 88, none, .call n_lines_Lines_Write [(.t 84), (.t 85), (.t 87)]⟩,
  ⟨some 89, none, .mov (.t 9)⟩,
  ⟨some 90, none, .eqb true (.t 88) (.t 89)⟩])
  (.cond (.t 90)
  (.seq (.ops [⟨some 2, none, .mov (.c (.bool false))⟩])
  (.ret))
  (.skip)))
  (.seq (.ops [⟨some 91, none, .mov (.t 8)⟩,
  ⟨some 92, none, .bin .eql (.t 91) (.c (.int .u32 4))⟩])
  (.cond (.t 92)
  (.ops [⟨some 93, none, .fa 4 (.t 7)⟩,
  ⟨some 94, none, .ld (.t 93)⟩,
  ⟨some 95, none, .bin .and (.t 94) (.c (.int .u32 62))⟩,
  ⟨some 5, none, .mov (.t 95)⟩])
  (.skip)))
def c4_pianolalaw10_LinesPlays : C :=
 .seq (.ops [⟨some 70, none, .mov (.t 8)⟩,
  ⟨some 71, none, .bin .eql (.t 70) (.c (.int .u32 0))⟩,
  ⟨some 72, none, .mov (.t 71)⟩,
  ⟨some 73, some (72, false), .mov (.t 8)⟩,
  ⟨some 74, some (72, false), .bin .eql (.t 73) (.c (.int .u32 4))⟩,
  ⟨some 75, none, .pick (.t 72) (.c (.bool true)) (.t 74)⟩,
  ⟨some 76, none, .mov (.t 75)⟩,
  ⟨some 77, some (76, false), .mov (.t 8)⟩,
  ⟨some 78, some (76, false), .bin .eql (.t 77) (.c (.int .u32 8))⟩,
  ⟨some 79, none, .pick (.t 76) (.c (.bool true)) (.t 78)⟩,
  ⟨some 80, none, .mov (.t 79)⟩,
  ⟨some 81, some (80, false), .mov (.t 8)⟩,
  ⟨some 82, some (80, false), .bin .eql (.t 81) (.c (.int .u32 12))⟩,
  ⟨some 83, none, .pick (.t 80) (.c (.bool true)) (.t 82)⟩,
  ⟨some 9, none, .mov (.t 83)⟩])
  (c3_pianolalaw10_LinesPlays)
def c5_pianolalaw10_LinesPlays : C :=
 .seq (.seq (.ops [⟨some 64, none, .fa 0 (.t 7)⟩,
  ⟨some 65, none, .ld (.t 64)⟩,
  ⟨some 66, none, .bin .eql (.t 65) (.c (.int .i64 2))⟩])
  (.cond (.t 66)
  (.ops [⟨some 67, none, .mov (.t 8)⟩,
  ⟨some 68, none, .bin .rem (.t 67) (.c (.int .u32 16))⟩,
  ⟨some 69, none, .bin .andNot (.t 68) (.c (.int .u32 3))⟩,
  ⟨some 8, none, .mov (.t 69)⟩])
  (.skip)))
  (c4_pianolalaw10_LinesPlays)
def c6_pianolalaw10_LinesPlays : C :=
 .cond (.t 33)
  (.seq (.ops [⟨some 34, none, .mov (.t 3)⟩,
  ⟨some 35, none, .fa 1 (.t 7)⟩,
  ⟨some 36, none, .ld (.t 35)⟩,
  ⟨some 37, none, .fa 2 (.t 7)⟩,
  ⟨some 38, none, .ld (.t 37)⟩,
  ⟨some 39, none, .call n_lines_Lines_Set [(.t 34), (.t 36), (.t 38)]⟩])
  (c2_pianolalaw10_LinesPlays))
  (.seq (.ops [⟨some 62, none, .fa 3 (.t 7)⟩,
  ⟨some 63, none, .ld (.t 62)⟩,
  ⟨some 8, none, .mov (.t 63)⟩])
  (c5_pianolalaw10_LinesPlays))
def c7_pianolalaw10_LinesPlays : C :=
 .seq (.ops [⟨some 122, none, .bin .eql (.t 108) (.c (.int .u32 12))⟩,
  ⟨some 121, none, .mov (.t 122)⟩])
  (.cond (.t 121)
  (.ops [⟨some 123, none, .fa 5 (.t 7)⟩,
  ⟨some 124, none, .ld (.t 123)⟩,
  ⟨some 125, none, .conv .u64 (.t 124)⟩,
  ⟨some 126, none, .bin .shr (.t 125) (.c (.int .u64 32))⟩,
  ⟨some 127, none, .conv .u32 (.t 126)⟩,
  ⟨some 13, none, .mov (.t 127)⟩])
  (.skip))
def c8_pianolalaw10_LinesPlays : C :=
 .seq (.ops [⟨some 116, none, .bin .eql (.t 108) (.c (.int .u32 8))⟩,
  ⟨some 115, none, .mov (.t 116)⟩])
  (.cond (.t 115)
  (.ops [⟨some 117, none, .fa 5 (.t 7)⟩,
  ⟨some 118, none, .ld (.t 117)⟩,
  ⟨some 119, none, .conv .u64 (.t 118)⟩,
  ⟨some 120, none, .conv .u32 (.t 119)⟩,
  ⟨some 13, none, .mov (.t 120)⟩])
  (c7_pianolalaw10_LinesPlays))
def c9_pianolalaw10_LinesPlays : C :=
 .block 4
  (.seq (.ops [⟨some 110, none, .bin .eql (.t 108) (.c (.int .u32 0))⟩,
  ⟨some 109, none, .mov (.t 110)⟩])
  (.cond (.t 109)
  (.ops [⟨some 111, none, .mov (.t 4)⟩,
  ⟨some 13, none, .mov (.t 111)⟩])
  (.seq (.ops [⟨some 113, none, .bin .eql (.t 108) (.c (.int .u32 4))⟩,
  ⟨some 112, none, .mov (.t 113)⟩])
  (.cond (.t 112)
  (.ops [⟨some 114, none, .mov (.t 5)⟩,
  ⟨some 13, none, .mov (.t 114)⟩])
  (c8_pianolalaw10_LinesPlays)))))
def c10_pianolalaw10_LinesPlays : C :=
 .seq (.ops [⟨some 128, none, .mov (.t 12)⟩,
  ⟨some 129, none, .mov (.t 10)⟩,
  ⟨some 130, none, .bin .rem (.t 129) (.c (.int .u32 4))⟩,
  ⟨some 131, none, .bin .eql (.t 130) (.c (.int .u32 0))⟩,
  ⟨some 132, none, .mov (.t 131)⟩,
  ⟨some 133, some (132, true), .mov (.t 10)⟩,
  ⟨some 134, some (132, true), .bin .lss (.t 133) (.c (.int .u32 16))⟩,
  ⟨some 135, none, .pick (.t 132) (.t 134) (.c (.bool false))⟩,
  ⟨some 136, none, .eqb true (.t 128) (.t 135)⟩,
  ⟨some 137, none, .mov (.t 136)⟩,
  ⟨some 138, some (137, false), .mov (.t 11)⟩,
  ⟨some 139, some (137, false), .mov (.t 13)⟩,
  ⟨some 140, some (137, false), .bin .neq (.t 138) (.t 139)⟩,
  ⟨some 141, none, .pick (.t 137) (.c (.bool true)) (.t 140)⟩])
  (.cond (.t 141)
  (.seq (.ops [⟨some 2, none, .mov (.c (.bool false))⟩])
  (.ret))
  (.skip))
def c11_pianolalaw10_LinesPlays : C :=
 .seq (.block 3
  (.seq (.ops [⟨some 101, none, .mov (.t 3)⟩,
  ⟨some 102, none, .mov (.t 10)⟩,
  ⟨some 103, none, .fa 5 (.t 7)⟩,
  ⟨some 104, none, .ld (.t 103)⟩,
  ⟨some 105, none, .call n_lines_Lines_Read [(.t 101), (.t 102), (.t 104)]⟩,
  ⟨some 100, none, .mov (.t 105)⟩,
  ⟨some 106, none, .ext (.t 100) 0⟩,
  ⟨some 107, none, .ext (.t 100) 1⟩,
  ⟨some 11, none, .mov (.t 106)⟩,
  ⟨some 12, none, .mov (.t 107)⟩])
  (.seq (.ops [⟨some 13, none, .mov (.c (.int .u32 0))⟩])
  (.seq (.seq (.ops [⟨some 108, none, .mov (.t 10)⟩])
  (c9_pianolalaw10_LinesPlays))
  (c10_pianolalaw10_LinesPlays)))))
  (.ops [⟨some 98, none, .mov (.t 10)⟩,
  ⟨some 99, none, .bin .add (.t 98) (.c (.int .u32 1))⟩,
  ⟨some 10, none, .mov (.t 99)⟩])
def c12_pianolalaw10_LinesPlays : C :=
 .seq (.seq (.ops [⟨some 96, none, .mov (.t 10)⟩,
  ⟨some 97, none, .bin .lss (.t 96) (.c (.int .u32 20))⟩])
  (.cond (.t 97)
  (.skip)
  (.exit 2)))
  (c11_pianolalaw10_LinesPlays)
def c13_pianolalaw10_LinesPlays : C :=
 .seq (.ops [⟨some 142, none, .mov (.t 3)⟩,
  ⟨some 143, none, .call n_lines_Lines_Raised [(.t 142)]⟩,
  ⟨some 144, none, .mov (.t 4)⟩,
  ⟨some 145, none, .mov (.t 5)⟩,
  ⟨some 146, none, .bin .and (.t 144) (.t 145)⟩,
  ⟨some 147, none, .bin .neq (.t 146) (.c (.int .u32 0))⟩,
  ⟨some 148, none, .eqb true (.t 143) (.t 147)⟩])
  (.cond (.t 148)
  (.seq (.ops [⟨some 2, none, .mov (.c (.bool false))⟩])
  (.ret))
  (.skip))
def c14_pianolalaw10_LinesPlays : C :=
 .seq (.ops [⟨some 27, none, .mov (.t 0)⟩,
  ⟨some 28, none, .mov (.t 6)⟩,
  ⟨some 29, none, .ia 6 (.t 27) (.t 28)⟩,
  ⟨some 30, none, .ldn 6 (.t 29)⟩,
  ⟨some 7, none, .new [(.int .i64 0), (.int .i64 0), (.bool false), (.int .u32 0), (.int .u32 0), (.int .i64 0)]⟩,
  ⟨none, none, .stn 6 (.t 7) (.t 30)⟩])
  (.seq (.seq (.ops [⟨some 31, none, .fa 0 (.t 7)⟩,
  ⟨some 32, none, .ld (.t 31)⟩,
  ⟨some 33, none, .bin .lss (.t 32) (.c (.int .i64 2))⟩])
  (c6_pianolalaw10_LinesPlays))
  (.seq (.seq (.ops [⟨some 10, none, .mov (.c (.int .u32 0))⟩])
  (.block 2
  (.loop c12_pianolalaw10_LinesPlays)))
  (c13_pianolalaw10_LinesPlays)))
def c15_pianolalaw10_LinesPlays : C :=
 .seq (.block 1
  (.seq (.seq (.ops [⟨some 25, none, .mov (.t 3)⟩,
  ⟨some 26, none, .eqn 0 false (.t 25)⟩])
  (.cond (.t 26)
  (.seq (.ops [⟨some 2, none, .mov (.c (.bool false))⟩])
  (.ret))
  (.skip)))
  (c14_pianolalaw10_LinesPlays)))
  (.ops [⟨some 23, none, .mov (.t 6)⟩,
  ⟨some 24, none, .bin .add (.t 23) (.c (.int .i64 1))⟩,
  ⟨some 6, none, .mov (.t 24)⟩])
def c16_pianolalaw10_LinesPlays : C :=
 .seq (.seq (.ops [⟨some 15, none, .mov (.t 6)⟩,
  ⟨some 16, none, .mov (.t 0)⟩,
  ⟨some 17, none, .len 1 (.t 16)⟩,
  ⟨some 18, none, .bin .lss (.t 15) (.t 17)⟩,
  ⟨some 19, none, .mov (.t 18)⟩,
  ⟨some 20, some (19, true), .mov (.t 6)⟩,
  ⟨some 21, some (19, true), .bin .lss (.t 20) (.c (.int .i64 60))⟩,
  ⟨some 22, none, .pick (.t 19) (.t 21) (.c (.bool false))⟩])
  (.cond (.t 22)
  (.skip)
  (.exit 0)))
  (c15_pianolalaw10_LinesPlays)
def c17_pianolalaw10_LinesPlays : C :=
 .seq (.ops [⟨some 149, none, .mov (.t 3)⟩,
  ⟨some 150, none, .eqn 0 true (.t 149)⟩,
  ⟨some 151, none, .mov (.t 150)⟩,
  ⟨some 152, none, .pick (.t 151) (.c (.bool true)) (.c (.bool false))⟩,
  ⟨some 153, none, .mov (.t 152)⟩,
  ⟨some 154, some (153, true), .call n_pianolalaw10_known []⟩,
  ⟨some 155, none, .pick (.t 153) (.t 154) (.c (.bool false))⟩,
  ⟨some 2, none, .mov (.t 155)⟩])
  (.ret)
def c_pianolalaw10_LinesPlays : C :=
 .seq (.ops [⟨some 2, none, .mov (.c (.bool false))⟩])
  (.seq (.ops [⟨some 14, none, .call n_lines_New []⟩,
  ⟨some 3, none, .mov (.t 14)⟩])
  (.seq (.ops [⟨some 4, none, .mov (.c (.int .u32 0))⟩,
  ⟨some 5, none, .mov (.c (.int .u32 0))⟩])
  (.seq (.seq (.ops [⟨some 6, none, .mov (.c (.int .i64 0))⟩])
  (.block 0
  (.loop c16_pianolalaw10_LinesPlays)))
  (c17_pianolalaw10_LinesPlays))))
def f_pianolalaw10_LinesPlays : F := ⟨c_pianolalaw10_LinesPlays, [.t 2], some []⟩
theorem h_pianolalaw10_LinesPlays : compF Try.prog (compAny Try.prog) n_pianolalaw10_LinesPlays = some (f_pianolalaw10_LinesPlays.body, f_pianolalaw10_LinesPlays.res) := by kernel_rfl
/- pianola/pianolalaw10.LinesMask -/
def c0_pianolalaw10_LinesMask : C :=
 .seq (.ops [⟨some 60, none, .mov (.t 8)⟩,
  ⟨some 61, none, .mov (.t 60)⟩,
  ⟨some 62, some (61, true), .mov (.t 5)⟩,
  ⟨some 63, some (61, true), .call n_lines_Lines_Write [(.t 62), (.c (.int .u32 0)), (.c (.int .u32 0))]⟩,
  ⟨some 64, none, .pick (.t 61) (.t 63) (.c (.bool false))⟩,
  ⟨some 65, none, .mov (.t 64)⟩,
  ⟨some 66, some (65, true), .mov (.t 5)⟩,
  ⟨some 67, some (65, true), .call n_lines_Lines_Raised [(.t 66)]⟩,
  ⟨some 68, none, .pick (.t 65) (.t 67) (.c (.bool false))⟩,
  ⟨some 69, none, .mov (.t 68)⟩,
  ⟨some 70, some (69, true), .mov (.t 5)⟩,
  ⟨some 71, some (69, true), .call n_lines_Lines_Write [(.t 70), (.c (.int .u32 4)), (.c (.int .u32 0))]⟩,
  ⟨some 72, none, .pick (.t 69) (.t 71) (.c (.bool false))⟩,
  ⟨some 73, none, .mov (.t 72)⟩,
  ⟨some 74, some (73, true), .mov (.t 5)⟩,
  ⟨some 75, some (73, true), .call n_lines_Lines_Raised [(.t 74)]⟩,
  ⟨some 76, some (73, true), .un .not (.t 75)⟩,
  ⟨some 77, none, .pick (.t 73) (.t 76) (.c (.bool false))⟩,
  ⟨some 78, none, .mov (.t 77)⟩,
  ⟨some 79, none, .pick (.t 78) (.c (.bool true)) (.c (.bool false))⟩,
  ⟨some 80, none, .mov (.t 79)⟩,
  ⟨some 81, some (80, true), .call n_pianolalaw10_known []⟩,
  ⟨some 82, none, .pick (.t 80) (.t 81) (.c (.bool false))⟩,
  ⟨some 4, none, .mov (.t 82)⟩])
  (.ret)
def c1_pianolalaw10_LinesMask : C :=
 .seq (.seq (.ops [⟨some 53, none, .mov (.t 5)⟩,
  ⟨some 54, none, .call n_lines_Lines_Raised [(.t 53)]⟩])
  (.cond (.t 54)
  (.seq (.ops [⟨some 4, none, .mov (.c (.bool false))⟩])
  (.ret))
  (.skip)))
  (.seq (.ops [⟨some 55, none, .mov (.t 5)⟩,
  ⟨some 56, none, .mov (.t 6)⟩,
  ⟨some 57, none, .call n_lines_Lines_Set [(.t 55), (.t 56), (.c (.bool true))]⟩])
  (.seq (.ops [⟨some 58, none, .mov (.t 5)⟩,
  ⟨some 59, none, .call n_lines_Lines_Raised [(.t 58)]⟩,
  ⟨some 8, none, .mov (.t 59)⟩])
  (c0_pianolalaw10_LinesMask)))
def c2_pianolalaw10_LinesMask : C :=
 .seq (.seq (.ops [⟨some 23, none, .mov (.t 5)⟩,
  ⟨some 24, none, .call n_lines_Lines_Raised [(.t 23)]⟩,
  ⟨some 25, none, .mov (.t 24)⟩,
  ⟨some 26, some (25, false), .mov (.t 5)⟩,
  ⟨some 27, some (25, false), .mov (.t 1)⟩,
  ⟨some 28, some (25, false), .mov (.t 7)⟩,
  ⟨some 29, some (25, false), .bin .andNot (.t 27) (.t 28)⟩,
  ⟨some 30, some (25, false), .call n_lines_Lines_Write [(.t 26), (.c (.int .u32 4)), (.t 29)]⟩,
  ⟨some 31, some (25, false), .un .not (.t 30)⟩,
  ⟨some 32, none, .pick (.t 25) (.c (.bool true)) (.t 31)⟩,
  ⟨some 33, none, .mov (.t 32)⟩,
  ⟨some 34, some (33, false), .mov (.t 5)⟩,
  ⟨some 35, some (33, false), .call n_lines_Lines_Raised [(.t 34)]⟩,
  ⟨some 36, none, .pick (.t 33) (.c (.bool true)) (.t 35)⟩,
  ⟨some 37, none, .mov (.t 36)⟩,
  ⟨some 38, some (37, false), .mov (.t 5)⟩,
  ⟨some 39, some (37, false), .mov (.t 1)⟩,
  ⟨some 40, some (37, false), .mov (.t 7)⟩,
  ⟨some 41, some (37, false), .bin .or (.t 39) (.t 40)⟩,
  ⟨some 42, some (37, false), .call n_lines_Lines_Write [(.t 38), (.c (.int .u32 4)), (.t 41)]⟩,
  ⟨some 43, some (37, false), .un .not (.t 42)⟩,
  ⟨some 44, none, .pick (.t 37) (.c (.bool true)) (.t 43)⟩,
  ⟨some 45, none, .mov (.t 44)⟩,
  ⟨some 46, some (45, false), .mov (.t 5)⟩,
  ⟨some 47, some (45, false), .call n_lines_Lines_Raised [(.t 46)]⟩,
  ⟨some 48, some (45, false), .un .not (.t 47)⟩,
  ⟨some 49, none, .pick (.t 45) (.c (.bool true)) (.t 48)⟩])
  (.cond (.t 49)
  (.seq (.ops [⟨some 4, none, .mov (.c (.bool false))⟩])
  (.ret))
  (.skip)))
  (.seq (.ops [⟨some 50, none, .mov (.t 5)⟩,
  ⟨some 51, none, .mov (.t 6)⟩,
  ⟨some 52, none, .call n_lines_Lines_Set [(.t 50), (.t 51), (.c (.bool false))]⟩])
  (c1_pianolalaw10_LinesMask))
def c3_pianolalaw10_LinesMask : C :=
 .seq (.ops [⟨some 17, none, .mov (.t 6)⟩,
  ⟨some 18, none, .conv .u64 (.t 17)⟩,
  ⟨some 19, none, .bin .shl (.c (.int .u32 1)) (.t 18)⟩,
  ⟨some 7, none, .mov (.t 19)⟩])
  (.seq (.ops [⟨some 20, none, .mov (.t 5)⟩,
  ⟨some 21, none, .mov (.t 6)⟩,
  ⟨some 22, none, .call n_lines_Lines_Set [(.t 20), (.t 21), (.c (.bool true))]⟩])
  (c2_pianolalaw10_LinesMask))
def c4_pianolalaw10_LinesMask : C :=
 .seq (.ops [⟨some 12, none, .mov (.t 0)⟩,
  ⟨some 13, none, .bin .rem (.t 12) (.c (.int .i64 5))⟩,
  ⟨some 14, none, .bin .add (.t 13) (.c (.int .i64 5))⟩,
  ⟨some 15, none, .bin .rem (.t 14) (.c (.int .i64 5))⟩,
  ⟨some 16, none, .bin .add (.c (.int .i64 1)) (.t 15)⟩,
  ⟨some 6, none, .mov (.t 16)⟩])
  (c3_pianolalaw10_LinesMask)
def c_pianolalaw10_LinesMask : C :=
 .seq (.ops [⟨some 4, none, .mov (.c (.bool false))⟩])
  (.seq (.ops [⟨some 9, none, .call n_lines_New []⟩,
  ⟨some 5, none, .mov (.t 9)⟩])
  (.seq (.seq (.ops [⟨some 10, none, .mov (.t 5)⟩,
  ⟨some 11, none, .eqn 0 false (.t 10)⟩])
  (.cond (.t 11)
  (.seq (.ops [⟨some 4, none, .mov (.c (.bool false))⟩])
  (.ret))
  (.skip)))
  (c4_pianolalaw10_LinesMask)))
def f_pianolalaw10_LinesMask : F := ⟨c_pianolalaw10_LinesMask, [.t 4], some []⟩
theorem h_pianolalaw10_LinesMask : compF Try.prog (compAny Try.prog) n_pianolalaw10_LinesMask = some (f_pianolalaw10_LinesMask.body, f_pianolalaw10_LinesMask.res) := by kernel_rfl
/- pianola/pianolalaw24.InputNumbers -/
def c0_pianolalaw24_InputNumbers : C :=
 .seq (.block 1
  (.ops [⟨some 8, none, .mov (.t 1)⟩,
  ⟨some 9, none, .mov (.t 2)⟩,
  ⟨some 10, none, .bin .mul (.t 9) (.c (.int .i64 7))⟩,
  ⟨some 11, none, .bin .rem (.t 10) (.c (.int .i64 50))⟩,
  ⟨some 12, none, .mov (.t 2)⟩,
  ⟨some 13, none, .conv .u8 (.t 12)⟩,
  ⟨some 14, none, .build [(.int .i64 0), (.int .u8 0)] [(0, 1, (.t 11)), (1, 1, (.t 13))]⟩,
  ⟨some 15, none, .bsl 1 [(.int .i64 0), (.int .u8 0)] [(0, 2, (.t 14))]⟩,
  ⟨some 16, none, .app 2 16 (.t 8) (.t 15)⟩,
  ⟨some 1, none, .mov (.t 16)⟩]))
  (.ops [⟨some 6, none, .mov (.t 2)⟩,
  ⟨some 7, none, .bin .add (.t 6) (.c (.int .i64 1))⟩,
  ⟨some 2, none, .mov (.t 7)⟩])
def c1_pianolalaw24_InputNumbers : C :=
 .seq (.seq (.ops [⟨some 4, none, .mov (.t 2)⟩,
  ⟨some 5, none, .bin .lss (.t 4) (.c (.int .i64 300))⟩])
  (.cond (.t 5)
  (.skip)
  (.exit 0)))
  (c0_pianolalaw24_InputNumbers)
def c2_pianolalaw24_InputNumbers : C :=
 .seq (.ops [⟨some 26, none, .mov (.t 1)⟩,
  ⟨some 27, none, .sl 2 (.t 26) none (some (.c (.int .i64 40))) none⟩,
  ⟨some 28, none, .bsl 6 [(.int .i64 0), (.int .i64 0), (.int .i64 0), (.int .i64 0), (.int .i64 0), (.int .i64 0)] [(0, 1, (.c (.int .i64 (-5)))), (1, 1, (.c (.int .i64 0))), (2, 1, (.c (.int .i64 3))), (3, 1, (.c (.int .i64 2))), (4, 1, (.c (.int .i64 40))), (5, 1, (.c (.int .i64 60)))]⟩,
  ⟨some 29, none, .call n_pianolalaw24_InputPlays [(.t 27), (.t 28)]⟩,
  ⟨some 30, none, .mov (.t 29)⟩,
  ⟨some 31, some (30, true), .build [(.int .i64 0), (.int .u8 0)] [(0, 1, (.c (.int .i64 9223372036854775807))), (1, 1, (.c (.int .u8 1)))]⟩,
  ⟨some 32, some (30, true), .build [(.int .i64 0), (.int .u8 0)] [(0, 1, (.c (.int .i64 (-9223372036854775808)))), (1, 1, (.c (.int .u8 2)))]⟩,
  ⟨some 33, some (30, true), .bsl 2 [(.int .i64 0), (.int .u8 0), (.int .i64 0), (.int .u8 0)] [(0, 2, (.t 31)), (2, 2, (.t 32))]⟩,
  ⟨some 34, some (30, true), .bsl 2 [(.int .i64 0), (.int .i64 0)] [(0, 1, (.c (.int .i64 0))), (1, 1, (.c (.int .i64 9223372036854775807)))]⟩,
  ⟨some 35, some (30, true), .call n_pianolalaw24_InputPlays [(.t 33), (.t 34)]⟩,
  ⟨some 36, none, .pick (.t 30) (.t 35) (.c (.bool false))⟩,
  ⟨some 37, none, .mov (.t 36)⟩,
  ⟨some 38, some (37, true), .call n_pianolalaw24_known []⟩,
  ⟨some 39, none, .pick (.t 37) (.t 38) (.c (.bool false))⟩,
  ⟨some 0, none, .mov (.t 39)⟩])
  (.ret)
def c3_pianolalaw24_InputNumbers : C :=
 .seq (.seq (.ops [⟨some 19, none, .mov (.t 3)⟩,
  ⟨some 20, none, .eqn 0 false (.t 19)⟩,
  ⟨some 21, none, .mov (.t 20)⟩,
  ⟨some 22, some (21, false), .mov (.t 3)⟩,
  ⟨some 23, some (21, false), .call n_input_Plan_Left [(.t 22)]⟩,
  ⟨some 24, some (21, false), .bin .neq (.t 23) (.c (.int .i64 256))⟩,
  ⟨some 25, none, .pick (.t 21) (.c (.bool true)) (.t 24)⟩])
  (.cond (.t 25)
  (.seq (.ops [⟨some 0, none, .mov (.c (.bool false))⟩])
  (.ret))
  (.skip)))
  (c2_pianolalaw24_InputNumbers)
def c_pianolalaw24_InputNumbers : C :=
 .seq (.ops [⟨some 0, none, .mov (.c (.bool false))⟩])
  (.seq (.ops [⟨some 1, none, .mov (.c (.slice none 0 0))⟩])
  (.seq (.seq (.ops [⟨some 2, none, .mov (.c (.int .i64 0))⟩])
  (.block 0
  (.loop c1_pianolalaw24_InputNumbers)))
  (.seq (.ops [⟨some 17, none, .mov (.t 1)⟩,
  ⟨some 18, none, .call n_input_New [(.t 17)]⟩,
  ⟨some 3, none, .mov (.t 18)⟩])
  (c3_pianolalaw24_InputNumbers))))
def f_pianolalaw24_InputNumbers : F := ⟨c_pianolalaw24_InputNumbers, [.t 0], some []⟩
theorem h_pianolalaw24_InputNumbers : compF Try.prog (compAny Try.prog) n_pianolalaw24_InputNumbers = some (f_pianolalaw24_InputNumbers.body, f_pianolalaw24_InputNumbers.res) := by kernel_rfl
/- pianola/pianolalaw24.InputPlays -/
def c0_pianolalaw24_InputPlays : C :=
 .block 3
  (.seq (.ops [⟨some 85, none, .mov (.t 13)⟩,
  ⟨some 86, none, .mov (.t 7)⟩,
  ⟨some 87, none, .ia 2 (.t 86) (.c (.int .i64 0))⟩,
  ⟨some 88, none, .fa 1 (.t 87)⟩,
  ⟨some 89, none, .ld (.t 88)⟩,
  ⟨some 90, none, .bsl 1 [(.int .u8 0)] [(0, 1, (.t 89))]⟩,
  ⟨some 91, none, .app 1 1 (.t 85) (.t 90)⟩,
  ⟨some 13, none, .mov (.t 91)⟩])
  (.ops [⟨some 92, none, .mov (.t 7)⟩,
  ⟨some 93, none, .sl 2 (.t 92) (some (.c (.int .i64 1))) none none⟩,
  ⟨some 7, none, .mov (.t 93)⟩]))
def c1_pianolalaw24_InputPlays : C :=
 .seq (.seq (.ops [⟨some 74, none, .mov (.t 7)⟩,
  ⟨some 75, none, .len 1 (.t 74)⟩,
  ⟨some 76, none, .bin .gtr (.t 75) (.c (.int .i64 0))⟩,
  ⟨some 77, none, .mov (.t 76)⟩,
  ⟨some 78, some (77, true), .mov (.t 7)⟩,
  ⟨some 79, some (77, true), .ia 2 (.t 78) (.c (.int .i64 0))⟩,
  ⟨some 80, some (77, true), .fa 0 (.t 79)⟩,
  ⟨some 81, some (77, true), .ld (.t 80)⟩,
  ⟨some 82, some (77, true), .mov (.t 12)⟩,
  ⟨some 83, some (77, true), .bin .leq (.t 81) (.t 82)⟩,
  ⟨some 84, none, .pick (.t 77) (.t 83) (.c (.bool false))⟩])
  (.cond (.t 84)
  (.skip)
  (.exit 2)))
  (c0_pianolalaw24_InputPlays)
def c2_pianolalaw24_InputPlays : C :=
 .seq (.any 0 [.op 4 ⟨some 98, none, .mov (.t 13)⟩,
  .op 5 ⟨some 99, none, .b2s (.t 98)⟩,
  .op 0 ⟨some 94, none, .mov (.t 6)⟩,
  .op 1 ⟨some 95, none, .mov (.t 12)⟩,
  .op 2 ⟨some 96, none, .call n_input_Plan_Take [(.t 94), (.t 95)]⟩,
  .re 5 ⟨some 99, none, .b2s (.t 98)⟩,
  .op 3 ⟨some 97, none, .b2s (.t 96)⟩,
  .op 6 ⟨some 100, none, .bin .neq (.t 97) (.t 99)⟩])
  (.cond (.t 100)
  (.seq (.ops [⟨some 4, none, .mov (.c (.bool false))⟩])
  (.ret))
  (.skip))
def c3_pianolalaw24_InputPlays : C :=
 .seq (.seq (.ops [⟨some 69, none, .mov (.t 8)⟩,
  ⟨some 70, none, .bin .rem (.t 69) (.c (.int .i64 2))⟩,
  ⟨some 71, none, .bin .eql (.t 70) (.c (.int .i64 0))⟩])
  (.cond (.t 71)
  (.ops [⟨some 72, none, .mov (.t 12)⟩,
  ⟨some 73, none, .bin .rem (.t 72) (.c (.int .i64 60))⟩,
  ⟨some 12, none, .mov (.t 73)⟩])
  (.skip)))
  (.seq (.ops [⟨some 13, none, .mov (.c (.slice none 0 0))⟩])
  (.seq (.block 2
  (.loop c1_pianolalaw24_InputPlays))
  (c2_pianolalaw24_InputPlays)))
def c4_pianolalaw24_InputPlays : C :=
 .seq (.seq (.ops [⟨some 48, none, .mov (.t 9)⟩,
  ⟨some 49, none, .mov (.t 11)⟩,
  ⟨some 50, none, .bin .neq (.t 48) (.t 49)⟩,
  ⟨some 51, none, .mov (.t 50)⟩,
  ⟨some 52, some (51, false), .mov (.t 10)⟩,
  ⟨some 53, some (51, false), .mov (.t 7)⟩,
  ⟨some 54, some (51, false), .len 1 (.t 53)⟩,
  ⟨some 55, some (51, false), .bin .gtr (.t 54) (.c (.int .i64 0))⟩,
  ⟨some 56, some (51, false), .eqb true (.t 52) (.t 55)⟩,
  ⟨some 57, none, .pick (.t 51) (.c (.bool true)) (.t 56)⟩,
  ⟨some 58, none, .mov (.t 57)⟩,
  ⟨some 59, some (58, false), .mov (.t 6)⟩,
  ⟨some 60, some (58, false), .call n_input_Plan_Left [(.t 59)]⟩,
  ⟨some 61, some (58, false), .mov (.t 7)⟩,
  ⟨some 62, some (58, false), .len 1 (.t 61)⟩,
  ⟨some 63, some (58, false), .bin .neq (.t 60) (.t 62)⟩,
  ⟨some 64, none, .pick (.t 58) (.c (.bool true)) (.t 63)⟩])
  (.cond (.t 64)
  (.seq (.ops [⟨some 4, none, .mov (.c (.bool false))⟩])
  (.ret))
  (.skip)))
  (.seq (.ops [⟨some 65, none, .mov (.t 1)⟩,
  ⟨some 66, none, .mov (.t 8)⟩,
  ⟨some 67, none, .ia 1 (.t 65) (.t 66)⟩,
  ⟨some 68, none, .ld (.t 67)⟩,
  ⟨some 12, none, .mov (.t 68)⟩])
  (c3_pianolalaw24_InputPlays))
def c5_pianolalaw24_InputPlays : C :=
 .seq (.seq (.ops [⟨some 41, none, .mov (.t 7)⟩,
  ⟨some 42, none, .len 1 (.t 41)⟩,
  ⟨some 43, none, .bin .gtr (.t 42) (.c (.int .i64 0))⟩])
  (.cond (.t 43)
  (.ops [⟨some 44, none, .mov (.t 7)⟩,
  ⟨some 45, none, .ia 2 (.t 44) (.c (.int .i64 0))⟩,
  ⟨some 46, none, .fa 0 (.t 45)⟩,
  ⟨some 47, none, .ld (.t 46)⟩,
  ⟨some 11, none, .mov (.t 47)⟩])
  (.skip)))
  (c4_pianolalaw24_InputPlays)
def c6_pianolalaw24_InputPlays : C :=
 .seq (.ops [⟨some 37, none, .mov (.t 6)⟩,
  ⟨some 38, none, .call n_input_Plan_Next [(.t 37)]⟩,
  ⟨some 36, none, .mov (.t 38)⟩,
  ⟨some 39, none, .ext (.t 36) 0⟩,
  ⟨some 40, none, .ext (.t 36) 1⟩,
  ⟨some 9, none, .mov (.t 39)⟩,
  ⟨some 10, none, .mov (.t 40)⟩])
  (.seq (.ops [⟨some 11, none, .mov (.c (.int .i64 0))⟩])
  (c5_pianolalaw24_InputPlays))
def c7_pianolalaw24_InputPlays : C :=
 .seq (.block 1
  (.seq (.seq (.ops [⟨some 34, none, .mov (.t 6)⟩,
  ⟨some 35, none, .eqn 0 false (.t 34)⟩])
  (.cond (.t 35)
  (.seq (.ops [⟨some 4, none, .mov (.c (.bool false))⟩])
  (.ret))
  (.skip)))
  (c6_pianolalaw24_InputPlays)))
  (.ops [⟨some 32, none, .mov (.t 8)⟩,
  ⟨some 33, none, .bin .add (.t 32) (.c (.int .i64 1))⟩,
  ⟨some 8, none, .mov (.t 33)⟩])
def c8_pianolalaw24_InputPlays : C :=
 .seq (.seq (.ops [⟨some 24, none, .mov (.t 8)⟩,
  ⟨some 25, none, .mov (.t 1)⟩,
  ⟨some 26, none, .len 1 (.t 25)⟩,
  ⟨some 27, none, .bin .lss (.t 24) (.t 26)⟩,
  ⟨some 28, none, .mov (.t 27)⟩,
  ⟨some 29, some (28, true), .mov (.t 8)⟩,
  ⟨some 30, some (28, true), .bin .lss (.t 29) (.c (.int .i64 30))⟩,
  ⟨some 31, none, .pick (.t 28) (.t 30) (.c (.bool false))⟩])
  (.cond (.t 31)
  (.skip)
  (.exit 0)))
  (c7_pianolalaw24_InputPlays)
def c9_pianolalaw24_InputPlays : C :=
 .seq (.ops [⟨some 101, none, .mov (.t 6)⟩,
  ⟨some 102, none, .eqn 0 true (.t 101)⟩,
  ⟨some 103, none, .mov (.t 102)⟩,
  ⟨some 104, some (103, true), .mov (.t 5)⟩,
  ⟨some 105, some (103, true), .mov (.t 0)⟩,
  ⟨some 106, some (103, true), .build [(.int .i64 0), (.int .u8 0)] [(0, 1, (.c (.int .i64 165)))]⟩,
  ⟨some 107, some (103, true), .call n_pianolabook_Intact_input_Key [(.t 104), (.t 105), (.t 106)]⟩,
  ⟨some 108, none, .pick (.t 103) (.t 107) (.c (.bool false))⟩,
  ⟨some 109, none, .mov (.t 108)⟩,
  ⟨some 110, some (109, true), .call n_pianolalaw24_known []⟩,
  ⟨some 111, none, .pick (.t 109) (.t 110) (.c (.bool false))⟩,
  ⟨some 4, none, .mov (.t 111)⟩])
  (.ret)
def c10_pianolalaw24_InputPlays : C :=
 .seq (.ops [⟨some 17, none, .mov (.t 5)⟩,
  ⟨some 18, none, .mov (.t 0)⟩,
  ⟨some 19, none, .len 1 (.t 18)⟩,
  ⟨some 20, none, .sl 2 (.t 17) none (some (.t 19)) none⟩,
  ⟨some 21, none, .call n_input_New [(.t 20)]⟩,
  ⟨some 6, none, .mov (.t 21)⟩])
  (.seq (.ops [⟨some 22, none, .mov (.t 0)⟩,
  ⟨some 23, none, .call n_pianolalaw24_sorted [(.t 22)]⟩,
  ⟨some 7, none, .mov (.t 23)⟩])
  (.seq (.seq (.ops [⟨some 8, none, .mov (.c (.int .i64 0))⟩])
  (.block 0
  (.loop c8_pianolalaw24_InputPlays)))
  (c9_pianolalaw24_InputPlays)))
def c_pianolalaw24_InputPlays : C :=
 .seq (.ops [⟨some 4, none, .mov (.c (.bool false))⟩])
  (.seq (.ops [⟨some 14, none, .mov (.t 0)⟩,
  ⟨some 15, none, .build [(.int .i64 0), (.int .u8 0)] [(0, 1, (.c (.int .i64 165)))]⟩,
  ⟨some 16, none, .call n_pianolabook_Roomy_input_Key [(.t 14), (.t 15)]⟩,
  ⟨some 5, none, .mov (.t 16)⟩])
  (c10_pianolalaw24_InputPlays))
def f_pianolalaw24_InputPlays : F := ⟨c_pianolalaw24_InputPlays, [.t 4], some []⟩
theorem h_pianolalaw24_InputPlays : compF Try.prog (compAny Try.prog) n_pianolalaw24_InputPlays = some (f_pianolalaw24_InputPlays.body, f_pianolalaw24_InputPlays.res) := by kernel_rfl
/- pianola/pianolalaw24.InputParts -/
def c0_pianolalaw24_InputParts : C :=
 .seq (.block 1
  (.any 1 [.op 1 ⟨some 23, none, .mov (.t 0)⟩,
  .op 2 ⟨some 24, none, .mov (.t 6)⟩,
  .op 3 ⟨some 25, none, .ia 2 (.t 23) (.t 24)⟩,
  .op 4 ⟨some 26, none, .fa 0 (.t 25)⟩,
  .op 5 ⟨some 27, none, .ld (.t 26)⟩,
  .op 9 ⟨some 31, none, .mov (.t 0)⟩,
  .op 10 ⟨some 32, none, .mov (.t 6)⟩,
  .op 11 ⟨some 33, none, .ia 2 (.t 31) (.t 32)⟩,
  .op 12 ⟨some 34, none, .fa 1 (.t 33)⟩,
  .op 13 ⟨some 35, none, .ld (.t 34)⟩,
  .op 0 ⟨some 22, none, .mov (.t 5)⟩,
  .op 6 ⟨some 28, none, .bin .rem (.t 27) (.c (.int .i64 100))⟩,
  .op 7 ⟨some 29, none, .bin .add (.t 28) (.c (.int .i64 100))⟩,
  .op 8 ⟨some 30, none, .bin .rem (.t 29) (.c (.int .i64 100))⟩,
  .op 14 ⟨some 36, none, .build [(.int .i64 0), (.int .u8 0)] [(0, 1, (.t 30)), (1, 1, (.t 35))]⟩,
  .al 15 0 ⟨some 37, none, .bsl 1 [(.int .i64 0), (.int .u8 0)] [(0, 2, (.t 36))]⟩,
  .op 16 ⟨some 38, none, .app 2 16 (.t 22) (.t 37)⟩,
  .op 17 ⟨some 5, none, .mov (.t 38)⟩]))
  (.ops [⟨some 20, none, .mov (.t 6)⟩,
  ⟨some 21, none, .bin .add (.t 20) (.c (.int .i64 1))⟩,
  ⟨some 6, none, .mov (.t 21)⟩])
def c1_pianolalaw24_InputParts : C :=
 .seq (.seq (.ops [⟨some 12, none, .mov (.t 6)⟩,
  ⟨some 13, none, .mov (.t 0)⟩,
  ⟨some 14, none, .len 1 (.t 13)⟩,
  ⟨some 15, none, .bin .lss (.t 12) (.t 14)⟩,
  ⟨some 16, none, .mov (.t 15)⟩,
  ⟨some 17, some (16, true), .mov (.t 6)⟩,
  ⟨some 18, some (16, true), .bin .lss (.t 17) (.c (.int .i64 30))⟩,
  ⟨some 19, none, .pick (.t 16) (.t 18) (.c (.bool false))⟩])
  (.cond (.t 19)
  (.skip)
  (.exit 0)))
  (c0_pianolalaw24_InputParts)
def c2_pianolalaw24_InputParts : C :=
 .seq (.ops [⟨some 73, none, .mov (.t 7)⟩,
  ⟨some 74, none, .mov (.t 10)⟩,
  ⟨some 75, none, .call n_input_Plan_Take [(.t 73), (.t 74)]⟩,
  ⟨some 76, none, .len 1 (.t 75)⟩,
  ⟨some 77, none, .bin .neq (.t 76) (.c (.int .i64 0))⟩])
  (.cond (.t 77)
  (.seq (.ops [⟨some 4, none, .mov (.c (.bool false))⟩])
  (.ret))
  (.skip))
def c3_pianolalaw24_InputParts : C :=
 .seq (.block 3
  (.seq (.ops [⟨some 59, none, .mov (.t 10)⟩,
  ⟨some 60, none, .mov (.t 1)⟩,
  ⟨some 61, none, .mov (.t 11)⟩,
  ⟨some 62, none, .ia 1 (.t 60) (.t 61)⟩,
  ⟨some 63, none, .ld (.t 62)⟩,
  ⟨some 64, none, .bin .rem (.t 63) (.c (.int .i64 100))⟩,
  ⟨some 65, none, .bin .add (.t 64) (.c (.int .i64 100))⟩,
  ⟨some 66, none, .bin .rem (.t 65) (.c (.int .i64 100))⟩,
  ⟨some 67, none, .mx (.t 59) (.t 66)⟩,
  ⟨some 10, none, .mov (.t 67)⟩])
  (.seq (.ops [⟨some 68, none, .mov (.t 9)⟩,
  ⟨some 69, none, .mov (.t 7)⟩,
  ⟨some 70, none, .mov (.t 10)⟩,
  ⟨some 71, none, .call n_input_Plan_Take [(.t 69), (.t 70)]⟩,
  ⟨some 72, none, .app 1 1 (.t 68) (.t 71)⟩,
  ⟨some 9, none, .mov (.t 72)⟩])
  (c2_pianolalaw24_InputParts))))
  (.ops [⟨some 57, none, .mov (.t 11)⟩,
  ⟨some 58, none, .bin .add (.t 57) (.c (.int .i64 1))⟩,
  ⟨some 11, none, .mov (.t 58)⟩])
def c4_pianolalaw24_InputParts : C :=
 .seq (.seq (.ops [⟨some 49, none, .mov (.t 11)⟩,
  ⟨some 50, none, .mov (.t 1)⟩,
  ⟨some 51, none, .len 1 (.t 50)⟩,
  ⟨some 52, none, .bin .lss (.t 49) (.t 51)⟩,
  ⟨some 53, none, .mov (.t 52)⟩,
  ⟨some 54, some (53, true), .mov (.t 11)⟩,
  ⟨some 55, some (53, true), .bin .lss (.t 54) (.c (.int .i64 20))⟩,
  ⟨some 56, none, .pick (.t 53) (.t 55) (.c (.bool false))⟩])
  (.cond (.t 56)
  (.skip)
  (.exit 2)))
  (c3_pianolalaw24_InputParts)
def c5_pianolalaw24_InputParts : C :=
 .seq (.any 0 [.op 0 ⟨some 82, none, .mov (.t 9)⟩,
  .op 1 ⟨some 83, none, .b2s (.t 82)⟩,
  .op 2 ⟨some 84, none, .mov (.t 8)⟩,
  .op 3 ⟨some 85, none, .call n_input_Plan_Take [(.t 84), (.c (.int .i64 100))]⟩,
  .re 1 ⟨some 83, none, .b2s (.t 82)⟩,
  .op 4 ⟨some 86, none, .b2s (.t 85)⟩,
  .op 5 ⟨some 87, none, .bin .eql (.t 83) (.t 86)⟩,
  .op 6 ⟨some 88, none, .mov (.t 87)⟩,
  .op 7 ⟨some 89, some (88, true), .mov (.t 7)⟩,
  .op 8 ⟨some 90, some (88, true), .call n_input_Plan_Left [(.t 89)]⟩,
  .op 9 ⟨some 91, some (88, true), .bin .eql (.t 90) (.c (.int .i64 0))⟩,
  .op 10 ⟨some 92, none, .pick (.t 88) (.t 91) (.c (.bool false))⟩,
  .op 11 ⟨some 93, none, .mov (.t 92)⟩,
  .op 12 ⟨some 94, some (93, true), .mov (.t 8)⟩,
  .op 13 ⟨some 95, some (93, true), .call n_input_Plan_Left [(.t 94)]⟩,
  .op 14 ⟨some 96, some (93, true), .bin .eql (.t 95) (.c (.int .i64 0))⟩,
  .op 15 ⟨some 97, none, .pick (.t 93) (.t 96) (.c (.bool false))⟩,
  .op 16 ⟨some 98, none, .mov (.t 97)⟩,
  .op 17 ⟨some 99, some (98, true), .call n_pianolalaw24_known []⟩,
  .op 18 ⟨some 100, none, .pick (.t 98) (.t 99) (.c (.bool false))⟩,
  .op 19 ⟨some 4, none, .mov (.t 100)⟩])
  (.ret)
def c6_pianolalaw24_InputParts : C :=
 .seq (.seq (.ops [⟨some 11, none, .mov (.c (.int .i64 0))⟩])
  (.block 2
  (.loop c4_pianolalaw24_InputParts)))
  (.seq (.ops [⟨some 78, none, .mov (.t 9)⟩,
  ⟨some 79, none, .mov (.t 7)⟩,
  ⟨some 80, none, .call n_input_Plan_Take [(.t 79), (.c (.int .i64 100))]⟩,
  ⟨some 81, none, .app 1 1 (.t 78) (.t 80)⟩,
  ⟨some 9, none, .mov (.t 81)⟩])
  (c5_pianolalaw24_InputParts))
def c7_pianolalaw24_InputParts : C :=
 .seq (.seq (.ops [⟨some 43, none, .mov (.t 7)⟩,
  ⟨some 44, none, .eqn 0 false (.t 43)⟩,
  ⟨some 45, none, .mov (.t 44)⟩,
  ⟨some 46, some (45, false), .mov (.t 8)⟩,
  ⟨some 47, some (45, false), .eqn 0 false (.t 46)⟩,
  ⟨some 48, none, .pick (.t 45) (.c (.bool true)) (.t 47)⟩])
  (.cond (.t 48)
  (.seq (.ops [⟨some 4, none, .mov (.c (.bool false))⟩])
  (.ret))
  (.skip)))
  (.seq (.ops [⟨some 9, none, .mov (.c (.slice none 0 0))⟩])
  (.seq (.ops [⟨some 10, none, .mov (.c (.int .i64 0))⟩])
  (c6_pianolalaw24_InputParts)))
def c8_pianolalaw24_InputParts : C :=
 .seq (.seq (.ops [⟨some 6, none, .mov (.c (.int .i64 0))⟩])
  (.block 0
  (.loop c1_pianolalaw24_InputParts)))
  (.seq (.ops [⟨some 39, none, .mov (.t 5)⟩,
  ⟨some 40, none, .call n_input_New [(.t 39)]⟩,
  ⟨some 41, none, .mov (.t 5)⟩,
  ⟨some 42, none, .call n_input_New [(.t 41)]⟩,
  ⟨some 7, none, .mov (.t 40)⟩,
  ⟨some 8, none, .mov (.t 42)⟩])
  (c7_pianolalaw24_InputParts))
def c_pianolalaw24_InputParts : C :=
 .seq (.ops [⟨some 4, none, .mov (.c (.bool false))⟩])
  (.seq (.ops [⟨some 5, none, .mov (.c (.slice none 0 0))⟩])
  (c8_pianolalaw24_InputParts))
def f_pianolalaw24_InputParts : F := ⟨c_pianolalaw24_InputParts, [.t 4], some []⟩
theorem h_pianolalaw24_InputParts : compF Try.prog (compAny Try.prog) n_pianolalaw24_InputParts = some (f_pianolalaw24_InputParts.body, f_pianolalaw24_InputParts.res) := by kernel_rfl
/- pianola/pianolalaw9.WheelOrder -/
def c0_pianolalaw9_WheelOrder : C :=
 .seq (.block 1
  (.seq (.ops [⟨some 23, none, .mov (.t 3)⟩,
  ⟨some 24, none, .mov (.t 5)⟩,
  ⟨some 25, none, .mov (.t 0)⟩,
  ⟨some 26, none, .mov (.t 5)⟩,
  ⟨some 27, none, .ia 1 (.t 25) (.t 26)⟩,
  ⟨some 28, none, .ld (.t 27)⟩,
  ⟨some 29, none, .bin .rem (.t 28) (.c (.int .i64 50))⟩,
  ⟨some 30, none, .bin .add (.t 29) (.c (.int .i64 50))⟩,
  ⟨some 31, none, .bin .rem (.t 30) (.c (.int .i64 50))⟩,
  ⟨some 32, none, .call n_wheel_Wheel_Arm [(.t 23), (.t 24), (.t 31)]⟩,
  ⟨some 33, none, .un .not (.t 32)⟩])
  (.cond (.t 33)
  (.seq (.ops [⟨some 2, none, .mov (.c (.bool false))⟩])
  (.ret))
  (.skip))))
  (.ops [⟨some 21, none, .mov (.t 5)⟩,
  ⟨some 22, none, .bin .add (.t 21) (.c (.int .i64 1))⟩,
  ⟨some 5, none, .mov (.t 22)⟩])
def c1_pianolalaw9_WheelOrder : C :=
 .seq (.seq (.ops [⟨some 18, none, .mov (.t 5)⟩,
  ⟨some 19, none, .mov (.t 4)⟩,
  ⟨some 20, none, .bin .lss (.t 18) (.t 19)⟩])
  (.cond (.t 20)
  (.skip)
  (.exit 0)))
  (c0_pianolalaw9_WheelOrder)
def c2_pianolalaw9_WheelOrder : C :=
 .seq (.seq (.any 0 [.op 0 ⟨some 51, none, .fa 0 (.t 10)⟩,
  .op 1 ⟨some 52, none, .ld (.t 51)⟩,
  .op 2 ⟨some 53, none, .mov (.t 8)⟩,
  .op 3 ⟨some 54, none, .bin .neq (.t 52) (.t 53)⟩,
  .op 4 ⟨some 55, none, .mov (.t 54)⟩,
  .op 5 ⟨some 56, some (55, false), .fa 0 (.t 10)⟩,
  .op 6 ⟨some 57, some (55, false), .ld (.t 56)⟩,
  .op 7 ⟨some 58, some (55, false), .fa 0 (.t 6)⟩,
  .op 8 ⟨some 59, some (55, false), .ld (.t 58)⟩,
  .op 9 ⟨some 60, some (55, false), .bin .lss (.t 57) (.t 59)⟩,
  .op 10 ⟨some 61, none, .pick (.t 55) (.c (.bool true)) (.t 60)⟩,
  .op 11 ⟨some 62, none, .mov (.t 61)⟩,
  .op 12 ⟨some 63, some (62, false), .fa 0 (.t 10)⟩,
  .op 13 ⟨some 64, some (62, false), .ld (.t 63)⟩,
  .op 14 ⟨some 65, some (62, false), .fa 0 (.t 6)⟩,
  .op 15 ⟨some 66, some (62, false), .ld (.t 65)⟩,
  .op 16 ⟨some 67, some (62, false), .bin .eql (.t 64) (.t 66)⟩,
  .op 17 ⟨some 68, some (62, false), .mov (.t 67)⟩,
  .op 18 ⟨some 69, some (68, true), .fa 2 (.t 10)⟩,
  .op 19 ⟨some 70, some (68, true), .ld (.t 69)⟩,
  .op 20 ⟨some 71, some (68, true), .fa 2 (.t 6)⟩,
  .op 21 ⟨some 72, some (68, true), .ld (.t 71)⟩,
  .op 22 ⟨some 73, some (68, true), .bin .leq (.t 70) (.t 72)⟩,
  .op 23 ⟨some 74, some (62, false), .pick (.t 68) (.t 73) (.c (.bool false))⟩,
  .op 24 ⟨some 75, none, .pick (.t 62) (.c (.bool true)) (.t 74)⟩,
  .op 25 ⟨some 76, none, .mov (.t 75)⟩,
  .op 26 ⟨some 77, some (76, false), .fa 0 (.t 10)⟩,
  .op 27 ⟨some 78, some (76, false), .ld (.t 77)⟩,
  .op 28 ⟨some 79, some (76, false), .mov (.t 0)⟩,
  .op 29 ⟨some 80, some (76, false), .fa 1 (.t 10)⟩,
  .op 30 ⟨some 81, some (76, false), .ld (.t 80)⟩,
  .op 31 ⟨some 82, some (76, false), .ia 1 (.t 79) (.t 81)⟩,
  .op 32 ⟨some 83, some (76, false), .ld (.t 82)⟩,
  .op 33 ⟨some 84, some (76, false), .bin .rem (.t 83) (.c (.int .i64 50))⟩,
  .op 34 ⟨some 85, some (76, false), .bin .add (.t 84) (.c (.int .i64 50))⟩,
  .op 35 ⟨some 86, some (76, false), .bin .rem (.t 85) (.c (.int .i64 50))⟩,
  .op 36 ⟨some 87, some (76, false), .bin .neq (.t 78) (.t 86)⟩,
  .op 37 ⟨some 88, none, .pick (.t 76) (.c (.bool true)) (.t 87)⟩])
  (.cond (.t 88)
  (.seq (.ops [⟨some 2, none, .mov (.c (.bool false))⟩])
  (.ret))
  (.skip)))
  (.seq (.ops [⟨some 89, none, .ldn 3 (.t 10)⟩,
  ⟨none, none, .stn 3 (.t 6) (.t 89)⟩])
  (.ops [⟨some 90, none, .mov (.t 7)⟩,
  ⟨some 91, none, .bin .add (.t 90) (.c (.int .i64 1))⟩,
  ⟨some 7, none, .mov (.t 91)⟩]))
def c3_pianolalaw9_WheelOrder : C :=
 .seq (.block 5
  (.seq (.ops [⟨some 44, none, .mov (.t 3)⟩,
  ⟨some 45, none, .mov (.t 8)⟩,
  ⟨some 46, none, .call n_wheel_Wheel_Take [(.t 44), (.t 45)]⟩,
  ⟨some 43, none, .mov (.t 46)⟩,
  ⟨some 47, none, .ext (.t 43) 0⟩,
  ⟨some 48, none, .ext (.t 43) 1⟩,
  ⟨some 10, none, .new [(.int .i64 0), (.int .i64 0), (.int .i64 0)]⟩,
  ⟨none, none, .stn 3 (.t 10) (.t 47)⟩,
  ⟨some 11, none, .mov (.t 48)⟩])
  (.seq (.seq (.ops [⟨some 49, none, .mov (.t 11)⟩,
  ⟨some 50, none, .un .not (.t 49)⟩])
  (.cond (.t 50)
  (.exit 4)
  (.skip)))
  (c2_pianolalaw9_WheelOrder))))
  (.ops [⟨some 41, none, .mov (.t 9)⟩,
  ⟨some 42, none, .bin .add (.t 41) (.c (.int .i64 1))⟩,
  ⟨some 9, none, .mov (.t 42)⟩])
def c4_pianolalaw9_WheelOrder : C :=
 .seq (.seq (.ops [⟨some 39, none, .mov (.t 9)⟩,
  ⟨some 40, none, .bin .lss (.t 39) (.c (.int .i64 20))⟩])
  (.cond (.t 40)
  (.skip)
  (.exit 4)))
  (c3_pianolalaw9_WheelOrder)
def c5_pianolalaw9_WheelOrder : C :=
 .seq (.seq (.ops [⟨some 35, none, .mov (.t 8)⟩,
  ⟨some 36, none, .bin .lss (.t 35) (.c (.int .i64 60))⟩])
  (.cond (.t 36)
  (.skip)
  (.exit 2)))
  (.seq (.block 3
  (.seq (.ops [⟨some 9, none, .mov (.c (.int .i64 0))⟩])
  (.block 4
  (.loop c4_pianolalaw9_WheelOrder))))
  (.ops [⟨some 37, none, .mov (.t 8)⟩,
  ⟨some 38, none, .bin .add (.t 37) (.c (.int .i64 1))⟩,
  ⟨some 8, none, .mov (.t 38)⟩]))
def c6_pianolalaw9_WheelOrder : C :=
 .seq (.ops [⟨some 92, none, .mov (.t 7)⟩,
  ⟨some 93, none, .mov (.t 4)⟩,
  ⟨some 94, none, .bin .eql (.t 92) (.t 93)⟩,
  ⟨some 95, none, .mov (.t 94)⟩,
  ⟨some 96, some (95, true), .mov (.t 3)⟩,
  ⟨some 97, some (95, true), .call n_wheel_Wheel_All [(.t 96)]⟩,
  ⟨some 98, some (95, true), .len 1 (.t 97)⟩,
  ⟨some 99, some (95, true), .bin .eql (.t 98) (.c (.int .i64 0))⟩,
  ⟨some 100, none, .pick (.t 95) (.t 99) (.c (.bool false))⟩,
  ⟨some 101, none, .mov (.t 100)⟩,
  ⟨some 102, some (101, true), .call n_pianolalaw9_known []⟩,
  ⟨some 103, none, .pick (.t 101) (.t 102) (.c (.bool false))⟩,
  ⟨some 2, none, .mov (.t 103)⟩])
  (.ret)
def c7_pianolalaw9_WheelOrder : C :=
 .seq (.ops [⟨some 34, none, .build [(.int .i64 0), (.int .i64 0), (.int .i64 0)] [(0, 1, (.c (.int .i64 (-1))))]⟩,
  ⟨some 6, none, .new [(.int .i64 0), (.int .i64 0), (.int .i64 0)]⟩,
  ⟨none, none, .stn 3 (.t 6) (.t 34)⟩])
  (.seq (.ops [⟨some 7, none, .mov (.c (.int .i64 0))⟩])
  (.seq (.seq (.ops [⟨some 8, none, .mov (.c (.int .i64 0))⟩])
  (.block 2
  (.loop c5_pianolalaw9_WheelOrder)))
  (c6_pianolalaw9_WheelOrder)))
def c8_pianolalaw9_WheelOrder : C :=
 .seq (.seq (.ops [⟨some 13, none, .mov (.t 3)⟩,
  ⟨some 14, none, .eqn 0 false (.t 13)⟩])
  (.cond (.t 14)
  (.seq (.ops [⟨some 2, none, .mov (.c (.bool false))⟩])
  (.ret))
  (.skip)))
  (.seq (.ops [⟨some 15, none, .mov (.t 0)⟩,
  ⟨some 16, none, .len 1 (.t 15)⟩,
  ⟨some 17, none, .mn (.t 16) (.c (.int .i64 16))⟩,
  ⟨some 4, none, .mov (.t 17)⟩])
  (.seq (.seq (.ops [⟨some 5, none, .mov (.c (.int .i64 0))⟩])
  (.block 0
  (.loop c1_pianolalaw9_WheelOrder)))
  (c7_pianolalaw9_WheelOrder)))
def c_pianolalaw9_WheelOrder : C :=
 .seq (.ops [⟨some 2, none, .mov (.c (.bool false))⟩])
  (.seq (.ops [⟨some 12, none, .call n_wheel_New []⟩,
  ⟨some 3, none, .mov (.t 12)⟩])
  (c8_pianolalaw9_WheelOrder))
def f_pianolalaw9_WheelOrder : F := ⟨c_pianolalaw9_WheelOrder, [.t 2], some []⟩
theorem h_pianolalaw9_WheelOrder : compF Try.prog (compAny Try.prog) n_pianolalaw9_WheelOrder = some (f_pianolalaw9_WheelOrder.body, f_pianolalaw9_WheelOrder.res) := by kernel_rfl
/- pianola/pianolalaw9.WheelAnew -/
def c0_pianolalaw9_WheelAnew : C :=
 .seq (.ops [⟨some 74, none, .mov (.t 13)⟩,
  ⟨some 75, none, .mov (.t 2)⟩,
  ⟨some 76, none, .eqb true (.t 74) (.t 75)⟩,
  ⟨some 77, none, .mov (.t 76)⟩,
  ⟨some 78, some (77, true), .mov (.t 2)⟩,
  ⟨some 79, some (77, true), .mov (.t 78)⟩,
  ⟨some 80, some (79, false), .fa 1 (.t 12)⟩,
  ⟨some 81, some (79, false), .ld (.t 80)⟩,
  ⟨some 82, some (79, false), .bin .eql (.t 81) (.c (.int .i64 1))⟩,
  ⟨some 83, some (79, false), .mov (.t 82)⟩,
  ⟨some 84, some (83, true), .fa 0 (.t 12)⟩,
  ⟨some 85, some (83, true), .ld (.t 84)⟩,
  ⟨some 86, some (83, true), .mov (.t 9)⟩,
  ⟨some 87, some (83, true), .bin .eql (.t 85) (.t 86)⟩,
  ⟨some 88, some (79, false), .pick (.t 83) (.t 87) (.c (.bool false))⟩,
  ⟨some 89, some (79, false), .mov (.t 88)⟩,
  ⟨some 90, some (89, true), .fa 2 (.t 12)⟩,
  ⟨some 91, some (89, true), .ld (.t 90)⟩,
  ⟨some 92, some (89, true), .bin .eql (.t 91) (.c (.int .i64 2))⟩,
  ⟨some 93, some (79, false), .pick (.t 89) (.t 92) (.c (.bool false))⟩,
  ⟨some 94, some (77, true), .pick (.t 79) (.c (.bool true)) (.t 93)⟩,
  ⟨some 95, none, .pick (.t 77) (.t 94) (.c (.bool false))⟩,
  ⟨some 96, none, .mov (.t 95)⟩,
  ⟨some 97, some (96, true), .mov (.t 7)⟩,
  ⟨some 98, some (96, true), .call n_wheel_Wheel_All [(.t 97)]⟩,
  ⟨some 99, some (96, true), .len 1 (.t 98)⟩,
  ⟨some 100, some (96, true), .bin .eql (.t 99) (.c (.int .i64 0))⟩,
  ⟨some 101, none, .pick (.t 96) (.t 100) (.c (.bool false))⟩,
  ⟨some 102, none, .mov (.t 101)⟩,
  ⟨some 103, some (102, true), .call n_pianolalaw9_known []⟩,
  ⟨some 104, none, .pick (.t 102) (.t 103) (.c (.bool false))⟩,
  ⟨some 6, none, .mov (.t 104)⟩])
  (.ret)
def c1_pianolalaw9_WheelAnew : C :=
 .seq (.ops [⟨some 70, none, .mov (.t 7)⟩,
  ⟨some 71, none, .call n_wheel_Wheel_Take [(.t 70), (.c (.int .i64 60))]⟩,
  ⟨some 69, none, .mov (.t 71)⟩,
  ⟨some 72, none, .ext (.t 69) 0⟩,
  ⟨some 73, none, .ext (.t 69) 1⟩,
  ⟨some 12, none, .new [(.int .i64 0), (.int .i64 0), (.int .i64 0)]⟩,
  ⟨none, none, .stn 3 (.t 12) (.t 72)⟩,
  ⟨some 13, none, .mov (.t 73)⟩])
  (c0_pianolalaw9_WheelAnew)
def c2_pianolalaw9_WheelAnew : C :=
 .seq (.seq (.ops [⟨some 56, none, .mov (.t 11)⟩,
  ⟨some 57, none, .un .not (.t 56)⟩,
  ⟨some 58, none, .mov (.t 57)⟩,
  ⟨some 59, some (58, false), .fa 1 (.t 10)⟩,
  ⟨some 60, some (58, false), .ld (.t 59)⟩,
  ⟨some 61, some (58, false), .bin .neq (.t 60) (.c (.int .i64 2))⟩,
  ⟨some 62, none, .pick (.t 58) (.c (.bool true)) (.t 61)⟩,
  ⟨some 63, none, .mov (.t 62)⟩,
  ⟨some 64, some (63, false), .fa 0 (.t 10)⟩,
  ⟨some 65, some (63, false), .ld (.t 64)⟩,
  ⟨some 66, some (63, false), .mov (.t 9)⟩,
  ⟨some 67, some (63, false), .bin .neq (.t 65) (.t 66)⟩,
  ⟨some 68, none, .pick (.t 63) (.c (.bool true)) (.t 67)⟩])
  (.cond (.t 68)
  (.seq (.ops [⟨some 6, none, .mov (.c (.bool false))⟩])
  (.ret))
  (.skip)))
  (c1_pianolalaw9_WheelAnew)
def c3_pianolalaw9_WheelAnew : C :=
 .seq (.ops [⟨some 52, none, .mov (.t 7)⟩,
  ⟨some 53, none, .call n_wheel_Wheel_Take [(.t 52), (.c (.int .i64 60))]⟩,
  ⟨some 51, none, .mov (.t 53)⟩,
  ⟨some 54, none, .ext (.t 51) 0⟩,
  ⟨some 55, none, .ext (.t 51) 1⟩,
  ⟨some 10, none, .new [(.int .i64 0), (.int .i64 0), (.int .i64 0)]⟩,
  ⟨none, none, .stn 3 (.t 10) (.t 54)⟩,
  ⟨some 11, none, .mov (.t 55)⟩])
  (c2_pianolalaw9_WheelAnew)
def c4_pianolalaw9_WheelAnew : C :=
 .seq (.seq (.ops [⟨some 41, none, .mov (.t 2)⟩,
  ⟨some 42, none, .mov (.t 41)⟩,
  ⟨some 43, some (42, true), .mov (.t 7)⟩,
  ⟨some 44, some (42, true), .call n_wheel_Wheel_Cancel [(.t 43), (.c (.int .i64 1))]⟩,
  ⟨some 45, some (42, true), .un .not (.t 44)⟩,
  ⟨some 46, some (42, true), .mov (.t 45)⟩,
  ⟨some 47, some (46, false), .mov (.t 7)⟩,
  ⟨some 48, some (46, false), .call n_wheel_Wheel_Cancel [(.t 47), (.c (.int .i64 1))]⟩,
  ⟨some 49, some (42, true), .pick (.t 46) (.c (.bool true)) (.t 48)⟩,
  ⟨some 50, none, .pick (.t 42) (.t 49) (.c (.bool false))⟩])
  (.cond (.t 50)
  (.seq (.ops [⟨some 6, none, .mov (.c (.bool false))⟩])
  (.ret))
  (.skip)))
  (c3_pianolalaw9_WheelAnew)
def c5_pianolalaw9_WheelAnew : C :=
 .seq (.seq (.ops [⟨some 25, none, .mov (.t 7)⟩,
  ⟨some 26, none, .mov (.t 8)⟩,
  ⟨some 27, none, .call n_wheel_Wheel_Arm [(.t 25), (.c (.int .i64 1)), (.t 26)]⟩,
  ⟨some 28, none, .un .not (.t 27)⟩,
  ⟨some 29, none, .mov (.t 28)⟩,
  ⟨some 30, some (29, false), .mov (.t 7)⟩,
  ⟨some 31, some (29, false), .mov (.t 9)⟩,
  ⟨some 32, some (29, false), .call n_wheel_Wheel_Arm [(.t 30), (.c (.int .i64 2)), (.t 31)]⟩,
  ⟨some 33, some (29, false), .un .not (.t 32)⟩,
  ⟨some 34, none, .pick (.t 29) (.c (.bool true)) (.t 33)⟩,
  ⟨some 35, none, .mov (.t 34)⟩,
  ⟨some 36, some (35, false), .mov (.t 7)⟩,
  ⟨some 37, some (35, false), .mov (.t 9)⟩,
  ⟨some 38, some (35, false), .call n_wheel_Wheel_Arm [(.t 36), (.c (.int .i64 1)), (.t 37)]⟩,
  ⟨some 39, some (35, false), .un .not (.t 38)⟩,
  ⟨some 40, none, .pick (.t 35) (.c (.bool true)) (.t 39)⟩])
  (.cond (.t 40)
  (.seq (.ops [⟨some 6, none, .mov (.c (.bool false))⟩])
  (.ret))
  (.skip)))
  (c4_pianolalaw9_WheelAnew)
def c6_pianolalaw9_WheelAnew : C :=
 .seq (.ops [⟨some 17, none, .mov (.t 0)⟩,
  ⟨some 18, none, .bin .rem (.t 17) (.c (.int .i64 50))⟩,
  ⟨some 19, none, .bin .add (.t 18) (.c (.int .i64 50))⟩,
  ⟨some 20, none, .bin .rem (.t 19) (.c (.int .i64 50))⟩,
  ⟨some 21, none, .mov (.t 1)⟩,
  ⟨some 22, none, .bin .rem (.t 21) (.c (.int .i64 50))⟩,
  ⟨some 23, none, .bin .add (.t 22) (.c (.int .i64 50))⟩,
  ⟨some 24, none, .bin .rem (.t 23) (.c (.int .i64 50))⟩,
  ⟨some 8, none, .mov (.t 20)⟩,
  ⟨some 9, none, .mov (.t 24)⟩])
  (c5_pianolalaw9_WheelAnew)
def c_pianolalaw9_WheelAnew : C :=
 .seq (.ops [⟨some 6, none, .mov (.c (.bool false))⟩])
  (.seq (.ops [⟨some 14, none, .call n_wheel_New []⟩,
  ⟨some 7, none, .mov (.t 14)⟩])
  (.seq (.seq (.ops [⟨some 15, none, .mov (.t 7)⟩,
  ⟨some 16, none, .eqn 0 false (.t 15)⟩])
  (.cond (.t 16)
  (.seq (.ops [⟨some 6, none, .mov (.c (.bool false))⟩])
  (.ret))
  (.skip)))
  (c6_pianolalaw9_WheelAnew)))
def f_pianolalaw9_WheelAnew : F := ⟨c_pianolalaw9_WheelAnew, [.t 6], some []⟩
theorem h_pianolalaw9_WheelAnew : compF Try.prog (compAny Try.prog) n_pianolalaw9_WheelAnew = some (f_pianolalaw9_WheelAnew.body, f_pianolalaw9_WheelAnew.res) := by kernel_rfl
/- pianola/pianolalaw9.WheelNumbers -/
def c0_pianolalaw9_WheelNumbers : C :=
 .seq (.block 1
  (.ops [⟨some 7, none, .mov (.t 1)⟩,
  ⟨some 8, none, .mov (.t 2)⟩,
  ⟨some 9, none, .bin .rem (.t 8) (.c (.int .i64 6))⟩,
  ⟨some 10, none, .mov (.t 2)⟩,
  ⟨some 11, none, .bin .mul (.t 10) (.c (.int .i64 5))⟩,
  ⟨some 12, none, .bin .rem (.t 11) (.c (.int .i64 18))⟩,
  ⟨some 13, none, .bin .sub (.t 12) (.c (.int .i64 1))⟩,
  ⟨some 14, none, .mov (.t 2)⟩,
  ⟨some 15, none, .bin .mul (.t 14) (.c (.int .i64 7))⟩,
  ⟨some 16, none, .bin .rem (.t 15) (.c (.int .i64 23))⟩,
  ⟨some 17, none, .bin .sub (.t 16) (.c (.int .i64 1))⟩,
  ⟨some 18, none, .build [(.int .i64 0), (.int .i64 0), (.int .i64 0)] [(0, 1, (.t 9)), (1, 1, (.t 13)), (2, 1, (.t 17))]⟩,
  ⟨some 19, none, .bsl 1 [(.int .i64 0), (.int .i64 0), (.int .i64 0)] [(0, 3, (.t 18))]⟩,
  ⟨some 20, none, .app 3 24 (.t 7) (.t 19)⟩,
  ⟨some 1, none, .mov (.t 20)⟩]))
  (.ops [⟨some 5, none, .mov (.t 2)⟩,
  ⟨some 6, none, .bin .add (.t 5) (.c (.int .i64 1))⟩,
  ⟨some 2, none, .mov (.t 6)⟩])
def c1_pianolalaw9_WheelNumbers : C :=
 .seq (.seq (.ops [⟨some 3, none, .mov (.t 2)⟩,
  ⟨some 4, none, .bin .lss (.t 3) (.c (.int .i64 78))⟩])
  (.cond (.t 4)
  (.skip)
  (.exit 0)))
  (c0_pianolalaw9_WheelNumbers)
def c2_pianolalaw9_WheelNumbers : C :=
 .seq (.ops [⟨some 21, none, .mov (.t 1)⟩,
  ⟨some 22, none, .call n_pianolalaw9_play [(.t 21), (.c (.bool false))]⟩,
  ⟨some 23, none, .mov (.t 22)⟩,
  ⟨some 24, some (23, true), .mov (.t 1)⟩,
  ⟨some 25, some (23, true), .call n_pianolalaw9_play [(.t 24), (.c (.bool true))]⟩,
  ⟨some 26, none, .pick (.t 23) (.t 25) (.c (.bool false))⟩,
  ⟨some 27, none, .mov (.t 26)⟩,
  ⟨some 28, some (27, true), .call n_pianolalaw9_known []⟩,
  ⟨some 29, none, .pick (.t 27) (.t 28) (.c (.bool false))⟩,
  ⟨some 0, none, .mov (.t 29)⟩])
  (.ret)
def c_pianolalaw9_WheelNumbers : C :=
 .seq (.ops [⟨some 0, none, .mov (.c (.bool false))⟩])
  (.seq (.ops [⟨some 1, none, .mov (.c (.slice none 0 0))⟩])
  (.seq (.seq (.ops [⟨some 2, none, .mov (.c (.int .i64 0))⟩])
  (.block 0
  (.loop c1_pianolalaw9_WheelNumbers)))
  (c2_pianolalaw9_WheelNumbers)))
def f_pianolalaw9_WheelNumbers : F := ⟨c_pianolalaw9_WheelNumbers, [.t 0], some []⟩
theorem h_pianolalaw9_WheelNumbers : compF Try.prog (compAny Try.prog) n_pianolalaw9_WheelNumbers = some (f_pianolalaw9_WheelNumbers.body, f_pianolalaw9_WheelNumbers.res) := by kernel_rfl
/- pianola/pianolalaw9.WheelPlays -/
def c0_pianolalaw9_WheelPlays : C :=
 .seq (.ops [⟨some 3, none, .mov (.t 0)⟩,
  ⟨some 4, none, .call n_pianolalaw9_play [(.t 3), (.c (.bool true))]⟩,
  ⟨some 5, none, .mov (.t 4)⟩,
  ⟨some 6, some (5, true), .mov (.t 0)⟩,
  ⟨some 7, some (5, true), .call n_pianolalaw9_play [(.t 6), (.c (.bool false))]⟩,
  ⟨some 8, none, .pick (.t 5) (.t 7) (.c (.bool false))⟩,
  ⟨some 9, none, .mov (.t 8)⟩,
  ⟨some 10, some (9, true), .call n_pianolalaw9_known []⟩,
  ⟨some 11, none, .pick (.t 9) (.t 10) (.c (.bool false))⟩,
  ⟨some 2, none, .mov (.t 11)⟩])
  (.ret)
def c_pianolalaw9_WheelPlays : C :=
 .seq (.ops [⟨some 2, none, .mov (.c (.bool false))⟩])
  (c0_pianolalaw9_WheelPlays)
def f_pianolalaw9_WheelPlays : F := ⟨c_pianolalaw9_WheelPlays, [.t 2], some []⟩
theorem h_pianolalaw9_WheelPlays : compF Try.prog (compAny Try.prog) n_pianolalaw9_WheelPlays = some (f_pianolalaw9_WheelPlays.body, f_pianolalaw9_WheelPlays.res) := by kernel_rfl
/- pianola/pianolalaw11.TimerAgain -/
def c0_pianolalaw11_TimerAgain : C :=
 .seq (.seq (.ops [⟨some 56, none, .mov (.t 13)⟩,
  ⟨some 57, none, .mov (.t 9)⟩,
  ⟨some 58, none, .bin .rem (.t 56) (.t 57)⟩,
  ⟨some 59, none, .bin .neq (.t 58) (.c (.int .i64 0))⟩,
  ⟨some 60, none, .mov (.t 59)⟩,
  ⟨some 61, some (60, false), .fa 0 (.t 14)⟩,
  ⟨some 62, some (60, false), .ld (.t 61)⟩,
  ⟨some 63, some (60, false), .mov (.t 13)⟩,
  ⟨some 64, some (60, false), .bin .neq (.t 62) (.t 63)⟩,
  ⟨some 65, none, .pick (.t 60) (.c (.bool true)) (.t 64)⟩,
  ⟨some 66, none, .mov (.t 65)⟩,
  ⟨some 67, some (66, false), .mov (.t 1)⟩,
  ⟨some 68, some (66, false), .un .not (.t 67)⟩,
  ⟨some 69, some (66, false), .mov (.t 68)⟩,
  ⟨some 70, some (69, true), .mov (.t 12)⟩,
  ⟨some 71, some (69, true), .bin .gtr (.t 70) (.c (.int .i64 0))⟩,
  ⟨some 72, some (66, false), .pick (.t 69) (.t 71) (.c (.bool false))⟩,
  ⟨some 73, none, .pick (.t 66) (.c (.bool true)) (.t 72)⟩])
  (.cond (.t 73)
  (.seq (.ops [⟨some 6, none, .mov (.c (.bool false))⟩])
  (.ret))
  (.skip)))
  (.seq (.ops [⟨some 74, none, .mov (.t 8)⟩,
  ⟨some 75, none, .fa 0 (.t 14)⟩,
  ⟨some 76, none, .ld (.t 75)⟩,
  ⟨some 77, none, .call n_timer_Timer_Fire [(.t 74), (.t 76)]⟩])
  (.ops [⟨some 78, none, .mov (.t 12)⟩,
  ⟨some 79, none, .bin .add (.t 78) (.c (.int .i64 1))⟩,
  ⟨some 12, none, .mov (.t 79)⟩]))
def c1_pianolalaw11_TimerAgain : C :=
 .seq (.block 1
  (.seq (.ops [⟨some 50, none, .mov (.t 7)⟩,
  ⟨some 51, none, .mov (.t 13)⟩,
  ⟨some 52, none, .call n_wheel_Wheel_Take [(.t 50), (.t 51)]⟩,
  ⟨some 49, none, .mov (.t 52)⟩,
  ⟨some 53, none, .ext (.t 49) 0⟩,
  ⟨some 54, none, .ext (.t 49) 1⟩,
  ⟨some 14, none, .new [(.int .i64 0), (.int .i64 0), (.int .i64 0)]⟩,
  ⟨none, none, .stn 3 (.t 14) (.t 53)⟩,
  ⟨some 15, none, .mov (.t 54)⟩])
  (.seq (.ops [⟨some 55, none, .mov (.t 15)⟩])
  (.cond (.t 55)
  (c0_pianolalaw11_TimerAgain)
  (.skip)))))
  (.ops [⟨some 47, none, .mov (.t 13)⟩,
  ⟨some 48, none, .bin .add (.t 47) (.c (.int .i64 1))⟩,
  ⟨some 13, none, .mov (.t 48)⟩])
def c2_pianolalaw11_TimerAgain : C :=
 .seq (.seq (.ops [⟨some 44, none, .mov (.t 13)⟩,
  ⟨some 45, none, .mov (.t 11)⟩,
  ⟨some 46, none, .bin .leq (.t 44) (.t 45)⟩])
  (.cond (.t 46)
  (.skip)
  (.exit 0)))
  (c1_pianolalaw11_TimerAgain)
def c3_pianolalaw11_TimerAgain : C :=
 .seq (.ops [⟨some 87, none, .mov (.t 12)⟩,
  ⟨some 88, none, .mov (.t 16)⟩,
  ⟨some 89, none, .bin .eql (.t 87) (.t 88)⟩,
  ⟨some 90, none, .mov (.t 89)⟩,
  ⟨some 91, some (90, true), .mov (.t 8)⟩,
  ⟨some 92, some (90, true), .call n_timer_Timer_Line [(.t 91)]⟩,
  ⟨some 93, some (90, true), .mov (.t 12)⟩,
  ⟨some 94, some (90, true), .bin .gtr (.t 93) (.c (.int .i64 0))⟩,
  ⟨some 95, some (90, true), .eqb false (.t 92) (.t 94)⟩,
  ⟨some 96, none, .pick (.t 90) (.t 95) (.c (.bool false))⟩,
  ⟨some 97, none, .mov (.t 96)⟩,
  ⟨some 98, some (97, true), .call n_pianolalaw11_known []⟩,
  ⟨some 99, none, .pick (.t 97) (.t 98) (.c (.bool false))⟩,
  ⟨some 6, none, .mov (.t 99)⟩])
  (.ret)
def c4_pianolalaw11_TimerAgain : C :=
 .seq (.ops [⟨some 80, none, .mov (.t 11)⟩,
  ⟨some 81, none, .mov (.t 9)⟩,
  ⟨some 82, none, .bin .quo (.t 80) (.t 81)⟩,
  ⟨some 16, none, .mov (.t 82)⟩])
  (.seq (.seq (.ops [⟨some 83, none, .mov (.t 1)⟩,
  ⟨some 84, none, .un .not (.t 83)⟩])
  (.cond (.t 84)
  (.ops [⟨some 85, none, .mov (.t 16)⟩,
  ⟨some 86, none, .mn (.t 85) (.c (.int .i64 1))⟩,
  ⟨some 16, none, .mov (.t 86)⟩])
  (.skip)))
  (c3_pianolalaw11_TimerAgain))
def c5_pianolalaw11_TimerAgain : C :=
 .seq (.ops [⟨some 42, none, .mov (.t 2)⟩,
  ⟨some 43, none, .call n_pianolabook_Within [(.t 42), (.c (.int .i64 1)), (.c (.int .i64 100))]⟩,
  ⟨some 11, none, .mov (.t 43)⟩])
  (.seq (.ops [⟨some 12, none, .mov (.c (.int .i64 0))⟩])
  (.seq (.seq (.ops [⟨some 13, none, .mov (.c (.int .i64 0))⟩])
  (.block 0
  (.loop c2_pianolalaw11_TimerAgain)))
  (c4_pianolalaw11_TimerAgain)))
def c6_pianolalaw11_TimerAgain : C :=
 .seq (.seq (.ops [⟨some 31, none, .mov (.t 8)⟩,
  ⟨some 32, none, .mov (.t 9)⟩,
  ⟨some 33, none, .conv .u32 (.t 32)⟩,
  ⟨some 34, none, .call n_timer_Timer_Write [(.t 31), (.c (.int .u32 4)), (.t 33), (.c (.int .i64 0))]⟩,
  ⟨some 35, none, .un .not (.t 34)⟩,
  ⟨some 36, none, .mov (.t 35)⟩,
  ⟨some 37, some (36, false), .mov (.t 8)⟩,
  ⟨some 38, some (36, false), .mov (.t 10)⟩,
  ⟨some 39, some (36, false), .call n_timer_Timer_Write [(.t 37), (.c (.int .u32 0)), (.t 38), (.c (.int .i64 0))]⟩,
  ⟨some 40, some (36, false), .un .not (.t 39)⟩,
  ⟨some 41, none, .pick (.t 36) (.c (.bool true)) (.t 40)⟩])
  (.cond (.t 41)
  (.seq (.ops [⟨some 6, none, .mov (.c (.bool false))⟩])
  (.ret))
  (.skip)))
  (c5_pianolalaw11_TimerAgain)
def c7_pianolalaw11_TimerAgain : C :=
 .seq (.ops [⟨some 26, none, .mov (.t 0)⟩,
  ⟨some 27, none, .bin .rem (.t 26) (.c (.int .u32 20))⟩,
  ⟨some 28, none, .conv .i64 (.t 27)⟩,
  ⟨some 29, none, .bin .add (.t 28) (.c (.int .i64 1))⟩,
  ⟨some 9, none, .mov (.t 29)⟩])
  (.seq (.ops [⟨some 10, none, .mov (.c (.int .u32 1))⟩])
  (.seq (.seq (.ops [⟨some 30, none, .mov (.t 1)⟩])
  (.cond (.t 30)
  (.ops [⟨some 10, none, .mov (.c (.int .u32 3))⟩])
  (.skip)))
  (c6_pianolalaw11_TimerAgain)))
def c8_pianolalaw11_TimerAgain : C :=
 .seq (.seq (.ops [⟨some 20, none, .mov (.t 7)⟩,
  ⟨some 21, none, .eqn 0 false (.t 20)⟩,
  ⟨some 22, none, .mov (.t 21)⟩,
  ⟨some 23, some (22, false), .mov (.t 8)⟩,
  ⟨some 24, some (22, false), .eqn 0 false (.t 23)⟩,
  ⟨some 25, none, .pick (.t 22) (.c (.bool true)) (.t 24)⟩])
  (.cond (.t 25)
  (.seq (.ops [⟨some 6, none, .mov (.c (.bool false))⟩])
  (.ret))
  (.skip)))
  (c7_pianolalaw11_TimerAgain)
def c_pianolalaw11_TimerAgain : C :=
 .seq (.ops [⟨some 6, none, .mov (.c (.bool false))⟩])
  (.seq (.ops [⟨some 17, none, .call n_wheel_New []⟩,
  ⟨some 7, none, .mov (.t 17)⟩])
  (.seq (.ops [⟨some 18, none, .mov (.t 7)⟩,
  ⟨some 19, none, .call n_timer_New [(.c (.int .i64 1)), (.t 18)]⟩,
  ⟨some 8, none, .mov (.t 19)⟩])
  (c8_pianolalaw11_TimerAgain)))
def f_pianolalaw11_TimerAgain : F := ⟨c_pianolalaw11_TimerAgain, [.t 6], some []⟩
theorem h_pianolalaw11_TimerAgain : compF Try.prog (compAny Try.prog) n_pianolalaw11_TimerAgain = some (f_pianolalaw11_TimerAgain.body, f_pianolalaw11_TimerAgain.res) := by kernel_rfl
/- pianola/pianolalaw11.TimerNumbers -/
def c0_pianolalaw11_TimerNumbers : C :=
 .seq (.block 1
  (.any 3 [.al 1 0 ⟨some 8, none, .bsl 7 [(.int .i64 0), (.int .i64 0), (.int .i64 0), (.int .i64 0), (.int .i64 0), (.int .i64 0), (.int .i64 0)] [(0, 1, (.c (.int .i64 0))), (1, 1, (.c (.int .i64 4))), (2, 1, (.c (.int .i64 3))), (3, 1, (.c (.int .i64 2))), (4, 1, (.c (.int .i64 1))), (5, 1, (.c (.int .i64 4))), (6, 1, (.c (.int .i64 3)))]⟩,
  .op 2 ⟨some 9, none, .mov (.t 2)⟩,
  .op 3 ⟨some 10, none, .bin .rem (.t 9) (.c (.int .i64 7))⟩,
  .op 4 ⟨some 11, none, .ia 1 (.t 8) (.t 10)⟩,
  .op 5 ⟨some 12, none, .ld (.t 11)⟩,
  .al 6 1 ⟨some 13, none, .bsl 5 [(.int .i64 0), (.int .i64 0), (.int .i64 0), (.int .i64 0), (.int .i64 0)] [(0, 1, (.c (.int .i64 1))), (1, 1, (.c (.int .i64 0))), (2, 1, (.c (.int .i64 2))), (3, 1, (.c (.int .i64 4))), (4, 1, (.c (.int .i64 3)))]⟩,
  .op 7 ⟨some 14, none, .mov (.t 2)⟩,
  .op 8 ⟨some 15, none, .bin .rem (.t 14) (.c (.int .i64 5))⟩,
  .op 9 ⟨some 16, none, .ia 1 (.t 13) (.t 15)⟩,
  .op 10 ⟨some 17, none, .ld (.t 16)⟩,
  .op 0 ⟨some 7, none, .mov (.t 1)⟩,
  .op 11 ⟨some 18, none, .mov (.t 2)⟩,
  .op 12 ⟨some 19, none, .bin .rem (.t 18) (.c (.int .i64 6))⟩,
  .op 13 ⟨some 20, none, .conv .u32 (.t 19)⟩,
  .op 14 ⟨some 21, none, .mov (.t 2)⟩,
  .op 15 ⟨some 22, none, .bin .rem (.t 21) (.c (.int .i64 9))⟩,
  .op 16 ⟨some 23, none, .build [(.int .i64 0), (.int .i64 0), (.int .u32 0), (.int .i64 0), (.int .u8 0)] [(0, 1, (.t 12)), (1, 1, (.t 17)), (2, 1, (.t 20)), (3, 1, (.t 22))]⟩,
  .al 17 2 ⟨some 24, none, .bsl 1 [(.int .i64 0), (.int .i64 0), (.int .u32 0), (.int .i64 0), (.int .u8 0)] [(0, 5, (.t 23))]⟩,
  .op 18 ⟨some 25, none, .app 5 40 (.t 7) (.t 24)⟩,
  .op 19 ⟨some 1, none, .mov (.t 25)⟩]))
  (.ops [⟨some 5, none, .mov (.t 2)⟩,
  ⟨some 6, none, .bin .add (.t 5) (.c (.int .i64 1))⟩,
  ⟨some 2, none, .mov (.t 6)⟩])
def c1_pianolalaw11_TimerNumbers : C :=
 .seq (.seq (.ops [⟨some 3, none, .mov (.t 2)⟩,
  ⟨some 4, none, .bin .lss (.t 3) (.c (.int .i64 78))⟩])
  (.cond (.t 4)
  (.skip)
  (.exit 0)))
  (c0_pianolalaw11_TimerNumbers)
def c2_pianolalaw11_TimerNumbers : C :=
 .seq (.ops [⟨some 26, none, .mov (.t 1)⟩,
  ⟨some 27, none, .call n_pianolalaw11_play [(.c (.int .i64 1)), (.t 26)]⟩,
  ⟨some 28, none, .mov (.t 27)⟩,
  ⟨some 29, some (28, true), .mov (.t 1)⟩,
  ⟨some 30, some (28, true), .call n_pianolalaw11_play [(.c (.int .i64 2)), (.t 29)]⟩,
  ⟨some 31, none, .pick (.t 28) (.t 30) (.c (.bool false))⟩,
  ⟨some 32, none, .mov (.t 31)⟩,
  ⟨some 33, some (32, true), .call n_pianolalaw11_known []⟩,
  ⟨some 34, none, .pick (.t 32) (.t 33) (.c (.bool false))⟩,
  ⟨some 0, none, .mov (.t 34)⟩])
  (.ret)
def c_pianolalaw11_TimerNumbers : C :=
 .seq (.ops [⟨some 0, none, .mov (.c (.bool false))⟩])
  (.seq (.ops [⟨some 1, none, .mov (.c (.slice none 0 0))⟩])
  (.seq (.seq (.ops [⟨some 2, none, .mov (.c (.int .i64 0))⟩])
  (.block 0
  (.loop c1_pianolalaw11_TimerNumbers)))
  (c2_pianolalaw11_TimerNumbers)))
def f_pianolalaw11_TimerNumbers : F := ⟨c_pianolalaw11_TimerNumbers, [.t 0], some []⟩
theorem h_pianolalaw11_TimerNumbers : compF Try.prog (compAny Try.prog) n_pianolalaw11_TimerNumbers = some (f_pianolalaw11_TimerNumbers.body, f_pianolalaw11_TimerNumbers.res) := by kernel_rfl
/- pianola/pianolalaw10.known -/
def c0_pianolalaw10_known : C :=
 .seq (.ops [⟨some 21, none, .mov (.t 2)⟩,
  ⟨some 22, none, .mov (.t 21)⟩,
  ⟨some 23, some (22, true), .mov (.t 1)⟩,
  ⟨some 24, some (22, true), .call n_lines_Lines_Raised [(.t 23)]⟩,
  ⟨some 25, none, .pick (.t 22) (.t 24) (.c (.bool false))⟩,
  ⟨some 26, none, .mov (.t 25)⟩,
  ⟨some 27, some (26, true), .mov (.t 4)⟩,
  ⟨some 28, some (26, true), .un .not (.t 27)⟩,
  ⟨some 29, none, .pick (.t 26) (.t 28) (.c (.bool false))⟩,
  ⟨some 0, none, .mov (.t 29)⟩])
  (.ret)
def c1_pianolalaw10_known : C :=
 .seq (.ops [⟨some 14, none, .mov (.t 1)⟩,
  ⟨some 15, none, .call n_lines_Lines_Write [(.t 14), (.c (.int .u32 4)), (.c (.int .u32 8))]⟩,
  ⟨some 2, none, .mov (.t 15)⟩])
  (.seq (.ops [⟨some 17, none, .mov (.t 1)⟩,
  ⟨some 18, none, .call n_lines_Lines_Read [(.t 17), (.c (.int .u32 1)), (.c (.int .i64 0))]⟩,
  ⟨some 16, none, .mov (.t 18)⟩,
  ⟨some 19, none, .ext (.t 16) 0⟩,
  ⟨some 20, none, .ext (.t 16) 1⟩,
  ⟨some 3, none, .mov (.t 19)⟩,
  ⟨some 4, none, .mov (.t 20)⟩])
  (c0_pianolalaw10_known))
def c2_pianolalaw10_known : C :=
 .seq (.seq (.ops [⟨some 6, none, .mov (.t 1)⟩,
  ⟨some 7, none, .eqn 0 false (.t 6)⟩,
  ⟨some 8, none, .mov (.t 7)⟩,
  ⟨some 9, some (8, false), .mov (.t 1)⟩,
  ⟨some 10, some (8, false), .call n_lines_Lines_Raised [(.t 9)]⟩,
  ⟨some 11, none, .pick (.t 8) (.c (.bool true)) (.t 10)⟩])
  (.cond (.t 11)
  (.seq (.ops [⟨some 0, none, .mov (.c (.bool false))⟩])
  (.ret))
  (.skip)))
  (.seq (.ops [⟨some 12, none, .mov (.t 1)⟩,
  ⟨some 13, none, .call n_lines_Lines_Set [(.t 12), (.c (.int .i64 3)), (.c (.bool true))]⟩])
  (c1_pianolalaw10_known))
def c_pianolalaw10_known : C :=
 .seq (.ops [⟨some 0, none, .mov (.c (.bool false))⟩])
  (.seq (.ops [⟨some 5, none, .call n_lines_New []⟩,
  ⟨some 1, none, .mov (.t 5)⟩])
  (c2_pianolalaw10_known))
def f_pianolalaw10_known : F := ⟨c_pianolalaw10_known, [.t 0], some []⟩
theorem h_pianolalaw10_known : compF Try.prog (compAny Try.prog) n_pianolalaw10_known = some (f_pianolalaw10_known.body, f_pianolalaw10_known.res) := by kernel_rfl
/- pianola/lines.New -/
def c_lines_New : C :=
 .seq (.ops [⟨some 0, none, .mov (.c (.pointer none))⟩])
  (.seq (.ops [⟨some 1, none, .build [(.int .u32 0), (.int .u32 0)] []⟩,
  ⟨some 2, none, .box (.t 1)⟩,
  ⟨some 0, none, .mov (.t 2)⟩])
  (.ret))
def f_lines_New : F := ⟨c_lines_New, [.t 0], some []⟩
theorem h_lines_New : compF Try.prog (compAny Try.prog) n_lines_New = some (f_lines_New.body, f_lines_New.res) := by kernel_rfl
/- (*pianola/lines.Lines).Set -/
def c0_lines_Lines_Set : C :=
 .any 0 [.op 0 ⟨some 22, none, .mov (.t 0)⟩,
  .op 1 ⟨some 23, none, .nilc (.t 22)⟩,
  .op 2 ⟨some 24, none, .fa 0 (.t 23)⟩,
  .op 3 ⟨some 25, none, .ld (.t 24)⟩,
  .op 4 ⟨some 26, none, .mov (.t 1)⟩,
  .op 5 ⟨some 27, none, .bin .shl (.c (.int .u32 1)) (.t 26)⟩,
  .op 6 ⟨some 28, none, .bin .or (.t 25) (.t 27)⟩,
  .op 7 ⟨some 29, none, .nilc (.t 22)⟩,
  .op 8 ⟨some 30, none, .fa 0 (.t 29)⟩,
  .op 9 ⟨none, none, .st (.t 30) (.t 28)⟩]
def c1_lines_Lines_Set : C :=
 .seq (.any 0 [.op 0 ⟨some 12, none, .mov (.t 0)⟩,
  .op 1 ⟨some 13, none, .nilc (.t 12)⟩,
  .op 2 ⟨some 14, none, .fa 0 (.t 13)⟩,
  .op 3 ⟨some 15, none, .ld (.t 14)⟩,
  .op 4 ⟨some 16, none, .mov (.t 1)⟩,
  .op 5 ⟨some 17, none, .bin .shl (.c (.int .u32 1)) (.t 16)⟩,
  .op 6 ⟨some 18, none, .bin .andNot (.t 15) (.t 17)⟩,
  .op 7 ⟨some 19, none, .nilc (.t 12)⟩,
  .op 8 ⟨some 20, none, .fa 0 (.t 19)⟩,
  .op 9 ⟨none, none, .st (.t 20) (.t 18)⟩])
  (.seq (.ops [⟨some 21, none, .mov (.t 2)⟩])
  (.cond (.t 21)
  (c0_lines_Lines_Set)
  (.skip)))
def c_lines_Lines_Set : C :=
 .seq (.seq (.ops [⟨some 6, none, .mov (.t 1)⟩,
  ⟨some 7, none, .bin .lss (.t 6) (.c (.int .i64 1))⟩,
  ⟨some 8, none, .mov (.t 7)⟩,
  ⟨some 9, some (8, false), .mov (.t 1)⟩,
  ⟨some 10, some (8, false), .bin .gtr (.t 9) (.c (.int .i64 5))⟩,
  ⟨some 11, none, .pick (.t 8) (.c (.bool true)) (.t 10)⟩])
  (.cond (.t 11)
  (.ret)
  (.skip)))
  (c1_lines_Lines_Set)
def f_lines_Lines_Set : F := ⟨c_lines_Lines_Set, [], some []⟩
theorem h_lines_Lines_Set : compF Try.prog (compAny Try.prog) n_lines_Lines_Set = some (f_lines_Lines_Set.body, f_lines_Lines_Set.res) := by kernel_rfl
/- (*pianola/lines.Lines).Write -/
def c0_lines_Lines_Write : C :=
 .seq (.seq (.ops [⟨some 16, none, .bin .eql (.t 7) (.c (.int .u32 0))⟩,
  ⟨some 15, none, .mov (.t 16)⟩])
  (.cond (.t 15)
  (.skip)
  (.seq (.ops [⟨some 17, none, .bin .eql (.t 7) (.c (.int .u32 8))⟩,
  ⟨some 15, none, .mov (.t 17)⟩])
  (.cond (.t 15)
  (.skip)
  (.ops [⟨some 18, none, .bin .eql (.t 7) (.c (.int .u32 12))⟩,
  ⟨some 15, none, .mov (.t 18)⟩])))))
  (.cond (.t 15)
  (.skip)
  (.seq (.ops [⟨some 6, none, .mov (.c (.bool false))⟩])
  (.ret)))
def c1_lines_Lines_Write : C :=
 .block 0
  (.seq (.ops [⟨some 9, none, .bin .eql (.t 7) (.c (.int .u32 4))⟩,
  ⟨some 8, none, .mov (.t 9)⟩])
  (.cond (.t 8)
  (.ops [⟨some 10, none, .mov (.t 0)⟩,
  ⟨some 11, none, .mov (.t 2)⟩,
  ⟨some 12, none, .bin .and (.t 11) (.c (.int .u32 62))⟩,
  ⟨some 13, none, .nilc (.t 10)⟩,
  ⟨some 14, none, .fa 1 (.t 13)⟩,
  ⟨none, none, .st (.t 14) (.t 12)⟩])
  (c0_lines_Lines_Write)))
def c_lines_Lines_Write : C :=
 .seq (.ops [⟨some 6, none, .mov (.c (.bool false))⟩])
  (.seq (.seq (.ops [⟨some 7, none, .mov (.t 1)⟩])
  (c1_lines_Lines_Write))
  (.seq (.ops [⟨some 6, none, .mov (.c (.bool true))⟩])
  (.ret)))
def f_lines_Lines_Write : F := ⟨c_lines_Lines_Write, [.t 6], some []⟩
theorem h_lines_Lines_Write : compF Try.prog (compAny Try.prog) n_lines_Lines_Write = some (f_lines_Lines_Write.body, f_lines_Lines_Write.res) := by kernel_rfl
end Go.Proofs.Ytppgoobhlcdbbaa.Cd
