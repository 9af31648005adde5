/- Texts of one kind, one behind the other. -/
import Derived.Test.YtppgoobhlcdbbaaProg
import Derived.KernelRfl
import Derived.Test.YtppgoobhlcdbbaaMb0
import Derived.Test.YtppgoobhlcdbbaaMc0
set_option maxRecDepth 100000
set_option linter.defProp false
namespace Go.Proofs.Ytppgoobhlcdbbaa.Cd
open Go Go.Dx
def n_pianolalaw24_InputPlays : Nat := 7
def n_input_New : Nat := 21
def n_input_Plan_Left : Nat := 22
def n_pianolalaw24_known : Nat := 23
def n_pianolabook_Roomy_input_Key : Nat := 24
def n_pianolalaw24_sorted : Nat := 25
def n_input_Plan_Next : Nat := 26
def n_input_Plan_Take : Nat := 27
def n_pianolabook_Intact_input_Key : Nat := 28
def n_slices_Clone_input_Key_input_Key : Nat := 43
def n_slices_SortStableFunc_input_Key_input_Key : Nat := 44
def n_input_New_1 : Nat := 45
def n_cmp_Compare_int64 : Nat := 46
def n_pianolabook_Same_input_Key : Nat := 47
def n_slices_stableCmpFunc_input_Key : Nat := 67
def n_cmp_isNaN_int64 : Nat := 68
def n_slices_insertionSortCmpFunc_input_Key : Nat := 80
def n_slices_symMergeCmpFunc_input_Key : Nat := 81
def n_slices_rotateCmpFunc_input_Key : Nat := 87
def n_slices_swapRangeCmpFunc_input_Key : Nat := 90
end Go.Proofs.Ytppgoobhlcdbbaa.Cd

set_option maxRecDepth 100000
set_option linter.defProp false
namespace Go.Proofs.Ytppgoobhlcdbbaa.Cd
open Go Go.Dx
def c0_pianolalaw24_InputPlays : C :=
 .block 3
  (.seq (.ops [⟨some 85, none, .mov (.t 13)⟩,
  ⟨some 86, none, .mov (.t 7)⟩,
  ⟨some 87, none, .ia 2 (.t 86) (.c (.int .i64 0))⟩,
  ⟨some 88, none, .fa 1 (.t 87)⟩,
  ⟨some 89, none, .ld (.t 88)⟩,
  ⟨some 90, none, .bsl 1 [(.int .u8 0)] [(0, 1, (.t 89))]⟩,
  ⟨some 91, none, .app 1 1 (.t 85) (.t 90)⟩,
  ⟨some 13, none, .mov (.t 91)⟩])
  (.ops [⟨some 92, none, .mov (.t 7)⟩,
  ⟨some 93, none, .sl 2 (.t 92) (some (.c (.int .i64 1))) none none⟩,
  ⟨some 7, none, .mov (.t 93)⟩]))
def c1_pianolalaw24_InputPlays : C :=
 .seq (.seq (.ops [⟨some 74, none, .mov (.t 7)⟩,
  ⟨some 75, none, .len 1 (.t 74)⟩,
  ⟨some 76, none, .bin .gtr (.t 75) (.c (.int .i64 0))⟩,
  ⟨some 77, none, .mov (.t 76)⟩,
  ⟨some 78, some (77, true), .mov (.t 7)⟩,
  ⟨some 79, some (77, true), .ia 2 (.t 78) (.c (.int .i64 0))⟩,
  ⟨some 80, some (77, true), .fa 0 (.t 79)⟩,
  ⟨some 81, some (77, true), .ld (.t 80)⟩,
  ⟨some 82, some (77, true), .mov (.t 12)⟩,
  ⟨some 83, some (77, true), .bin .leq (.t 81) (.t 82)⟩,
  ⟨some 84, none, .pick (.t 77) (.t 83) (.c (.bool false))⟩])
  (.cond (.t 84)
  (.skip)
  (.exit 2)))
  (c0_pianolalaw24_InputPlays)
def c2_pianolalaw24_InputPlays : C :=
 .seq (.any 0 [.op 4 ⟨some 98, none, .mov (.t 13)⟩,
  .op 5 ⟨some 99, none, .b2s (.t 98)⟩,
  .op 0 ⟨some 94, none, .mov (.t 6)⟩,
  .op 1 ⟨some 95, none, .mov (.t 12)⟩,
  .op 2 ⟨some 96, none, .call n_input_Plan_Take [(.t 94), (.t 95)]⟩,
  .re 5 ⟨some 99, none, .b2s (.t 98)⟩,
  .op 3 ⟨some 97, none, .b2s (.t 96)⟩,
  .op 6 ⟨some 100, none, .bin .neq (.t 97) (.t 99)⟩])
  (.cond (.t 100)
  (.seq (.ops [⟨some 4, none, .mov (.c (.bool false))⟩])
  (.ret))
  (.skip))
def c3_pianolalaw24_InputPlays : C :=
 .seq (.seq (.ops [⟨some 69, none, .mov (.t 8)⟩,
  ⟨some 70, none, .bin .rem (.t 69) (.c (.int .i64 2))⟩,
  ⟨some 71, none, .bin .eql (.t 70) (.c (.int .i64 0))⟩])
  (.cond (.t 71)
  (.ops [⟨some 72, none, .mov (.t 12)⟩,
  ⟨some 73, none, .bin .rem (.t 72) (.c (.int .i64 60))⟩,
  ⟨some 12, none, .mov (.t 73)⟩])
  (.skip)))
  (.seq (.ops [⟨some 13, none, .mov (.c (.slice none 0 0))⟩])
  (.seq (.block 2
  (.loop c1_pianolalaw24_InputPlays))
  (c2_pianolalaw24_InputPlays)))
def c4_pianolalaw24_InputPlays : C :=
 .seq (.seq (.ops [⟨some 48, none, .mov (.t 9)⟩,
  ⟨some 49, none, .mov (.t 11)⟩,
  ⟨some 50, none, .bin .neq (.t 48) (.t 49)⟩,
  ⟨some 51, none, .mov (.t 50)⟩,
  ⟨some 52, some (51, false), .mov (.t 10)⟩,
  ⟨some 53, some (51, false), .mov (.t 7)⟩,
  ⟨some 54, some (51, false), .len 1 (.t 53)⟩,
  ⟨some 55, some (51, false), .bin .gtr (.t 54) (.c (.int .i64 0))⟩,
  ⟨some 56, some (51, false), .eqb true (.t 52) (.t 55)⟩,
  ⟨some 57, none, .pick (.t 51) (.c (.bool true)) (.t 56)⟩,
  ⟨some 58, none, .mov (.t 57)⟩,
  ⟨some 59, some (58, false), .mov (.t 6)⟩,
  ⟨some 60, some (58, false), .call n_input_Plan_Left [(.t 59)]⟩,
  ⟨some 61, some (58, false), .mov (.t 7)⟩,
  ⟨some 62, some (58, false), .len 1 (.t 61)⟩,
  ⟨some 63, some (58, false), .bin .neq (.t 60) (.t 62)⟩,
  ⟨some 64, none, .pick (.t 58) (.c (.bool true)) (.t 63)⟩])
  (.cond (.t 64)
  (.seq (.ops [⟨some 4, none, .mov (.c (.bool false))⟩])
  (.ret))
  (.skip)))
  (.seq (.ops [⟨some 65, none, .mov (.t 1)⟩,
  ⟨some 66, none, .mov (.t 8)⟩,
  ⟨some 67, none, .ia 1 (.t 65) (.t 66)⟩,
  ⟨some 68, none, .ld (.t 67)⟩,
  ⟨some 12, none, .mov (.t 68)⟩])
  (c3_pianolalaw24_InputPlays))
def c5_pianolalaw24_InputPlays : C :=
 .seq (.seq (.ops [⟨some 41, none, .mov (.t 7)⟩,
  ⟨some 42, none, .len 1 (.t 41)⟩,
  ⟨some 43, none, .bin .gtr (.t 42) (.c (.int .i64 0))⟩])
  (.cond (.t 43)
  (.ops [⟨some 44, none, .mov (.t 7)⟩,
  ⟨some 45, none, .ia 2 (.t 44) (.c (.int .i64 0))⟩,
  ⟨some 46, none, .fa 0 (.t 45)⟩,
  ⟨some 47, none, .ld (.t 46)⟩,
  ⟨some 11, none, .mov (.t 47)⟩])
  (.skip)))
  (c4_pianolalaw24_InputPlays)
def c6_pianolalaw24_InputPlays : C :=
 .seq (.ops [⟨some 37, none, .mov (.t 6)⟩,
  ⟨some 38, none, .call n_input_Plan_Next [(.t 37)]⟩,
  ⟨some 36, none, .mov (.t 38)⟩,
  ⟨some 39, none, .ext (.t 36) 0⟩,
  ⟨some 40, none, .ext (.t 36) 1⟩,
  ⟨some 9, none, .mov (.t 39)⟩,
  ⟨some 10, none, .mov (.t 40)⟩])
  (.seq (.ops [⟨some 11, none, .mov (.c (.int .i64 0))⟩])
  (c5_pianolalaw24_InputPlays))
def c7_pianolalaw24_InputPlays : C :=
 .seq (.block 1
  (.seq (.seq (.ops [⟨some 34, none, .mov (.t 6)⟩,
  ⟨some 35, none, .eqn 0 false (.t 34)⟩])
  (.cond (.t 35)
  (.seq (.ops [⟨some 4, none, .mov (.c (.bool false))⟩])
  (.ret))
  (.skip)))
  (c6_pianolalaw24_InputPlays)))
  (.ops [⟨some 32, none, .mov (.t 8)⟩,
  ⟨some 33, none, .bin .add (.t 32) (.c (.int .i64 1))⟩,
  ⟨some 8, none, .mov (.t 33)⟩])
def c8_pianolalaw24_InputPlays : C :=
 .seq (.seq (.ops [⟨some 24, none, .mov (.t 8)⟩,
  ⟨some 25, none, .mov (.t 1)⟩,
  ⟨some 26, none, .len 1 (.t 25)⟩,
  ⟨some 27, none, .bin .lss (.t 24) (.t 26)⟩,
  ⟨some 28, none, .mov (.t 27)⟩,
  ⟨some 29, some (28, true), .mov (.t 8)⟩,
  ⟨some 30, some (28, true), .bin .lss (.t 29) (.c (.int .i64 30))⟩,
  ⟨some 31, none, .pick (.t 28) (.t 30) (.c (.bool false))⟩])
  (.cond (.t 31)
  (.skip)
  (.exit 0)))
  (c7_pianolalaw24_InputPlays)
def c9_pianolalaw24_InputPlays : C :=
 .seq (.ops [⟨some 101, none, .mov (.t 6)⟩,
  ⟨some 102, none, .eqn 0 true (.t 101)⟩,
  ⟨some 103, none, .mov (.t 102)⟩,
  ⟨some 104, some (103, true), .mov (.t 5)⟩,
  ⟨some 105, some (103, true), .mov (.t 0)⟩,
  ⟨some 106, some (103, true), .build [(.int .i64 0), (.int .u8 0)] [(0, 1, (.c (.int .i64 165)))]⟩,
  ⟨some 107, some (103, true), .call n_pianolabook_Intact_input_Key [(.t 104), (.t 105), (.t 106)]⟩,
  ⟨some 108, none, .pick (.t 103) (.t 107) (.c (.bool false))⟩,
  ⟨some 109, none, .mov (.t 108)⟩,
  ⟨some 110, some (109, true), .call n_pianolalaw24_known []⟩,
  ⟨some 111, none, .pick (.t 109) (.t 110) (.c (.bool false))⟩,
  ⟨some 4, none, .mov (.t 111)⟩])
  (.ret)
def c10_pianolalaw24_InputPlays : C :=
 .seq (.ops [⟨some 17, none, .mov (.t 5)⟩,
  ⟨some 18, none, .mov (.t 0)⟩,
  ⟨some 19, none, .len 1 (.t 18)⟩,
  ⟨some 20, none, .sl 2 (.t 17) none (some (.t 19)) none⟩,
  ⟨some 21, none, .call n_input_New [(.t 20)]⟩,
  ⟨some 6, none, .mov (.t 21)⟩])
  (.seq (.ops [⟨some 22, none, .mov (.t 0)⟩,
  ⟨some 23, none, .call n_pianolalaw24_sorted [(.t 22)]⟩,
  ⟨some 7, none, .mov (.t 23)⟩])
  (.seq (.seq (.ops [⟨some 8, none, .mov (.c (.int .i64 0))⟩])
  (.block 0
  (.loop c8_pianolalaw24_InputPlays)))
  (c9_pianolalaw24_InputPlays)))
def c_pianolalaw24_InputPlays : C :=
 .seq (.ops [⟨some 4, none, .mov (.c (.bool false))⟩])
  (.seq (.ops [⟨some 14, none, .mov (.t 0)⟩,
  ⟨some 15, none, .build [(.int .i64 0), (.int .u8 0)] [(0, 1, (.c (.int .i64 165)))]⟩,
  ⟨some 16, none, .call n_pianolabook_Roomy_input_Key [(.t 14), (.t 15)]⟩,
  ⟨some 5, none, .mov (.t 16)⟩])
  (c10_pianolalaw24_InputPlays))
def f_pianolalaw24_InputPlays : F := ⟨c_pianolalaw24_InputPlays, [.t 4], some []⟩
theorem h_pianolalaw24_InputPlays : compF Try.prog (compAny Try.prog) n_pianolalaw24_InputPlays = some (f_pianolalaw24_InputPlays.body, f_pianolalaw24_InputPlays.res) := by kernel_rfl
end Go.Proofs.Ytppgoobhlcdbbaa.Cd

set_option maxRecDepth 100000
set_option linter.defProp false
namespace Go.Proofs.Ytppgoobhlcdbbaa.Cd
open Go Go.Dx
def c0_input_New : C :=
 .seq (.ops [⟨some 4, none, .mov (.t 0)⟩,
  ⟨some 5, none, .mov (.t 0)⟩,
  ⟨some 6, none, .len 1 (.t 5)⟩,
  ⟨some 7, none, .mn (.t 6) (.c (.int .i64 256))⟩,
  ⟨some 8, none, .sl 2 (.t 4) none (some (.t 7)) none⟩,
  ⟨some 9, none, .call n_slices_Clone_input_Key_input_Key [(.t 8)]⟩,
  ⟨some 10, none, .build [(.slice none 0 0)] [(0, 1, (.t 9))]⟩,
  ⟨some 11, none, .box (.t 10)⟩,
  ⟨some 3, none, .mov (.t 11)⟩])
  (.seq (.ops [⟨some 12, none, .mov (.t 3)⟩,
  ⟨some 13, none, .nilc (.t 12)⟩,
  ⟨some 14, none, .fa 0 (.t 13)⟩,
  ⟨some 15, none, .ld (.t 14)⟩,
  ⟨some 16, none, .call n_slices_SortStableFunc_input_Key_input_Key [(.t 15), (.f n_input_New_1)]⟩])
  (.seq (.ops [⟨some 17, none, .mov (.t 3)⟩,
  ⟨some 2, none, .mov (.t 17)⟩])
  (.ret)))
def c_input_New : C :=
 .seq (.ops [⟨some 2, none, .mov (.c (.pointer none))⟩])
  (c0_input_New)
def f_input_New : F := ⟨c_input_New, [.t 2], some []⟩
theorem h_input_New : compF Try.prog (compAny Try.prog) n_input_New = some (f_input_New.body, f_input_New.res) := by kernel_rfl
def c_input_Plan_Left : C :=
 .seq (.ops [⟨some 2, none, .mov (.c (.int .i64 0))⟩])
  (.seq (.ops [⟨some 3, none, .mov (.t 0)⟩,
  ⟨some 4, none, .nilc (.t 3)⟩,
  ⟨some 5, none, .fa 0 (.t 4)⟩,
  ⟨some 6, none, .ld (.t 5)⟩,
  ⟨some 7, none, .len 1 (.t 6)⟩,
  ⟨some 2, none, .mov (.t 7)⟩])
  (.ret))
def f_input_Plan_Left : F := ⟨c_input_Plan_Left, [.t 2], some []⟩
theorem h_input_Plan_Left : compF Try.prog (compAny Try.prog) n_input_Plan_Left = some (f_input_Plan_Left.body, f_input_Plan_Left.res) := by kernel_rfl
def c0_pianolalaw24_known : C :=
 .seq (.ops [⟨some 31, none, .mov (.t 2)⟩,
  ⟨some 32, none, .bin .eql (.t 31) (.c (.int .i64 2))⟩,
  ⟨some 33, none, .mov (.t 32)⟩,
  ⟨some 34, some (33, true), .mov (.t 3)⟩,
  ⟨some 35, none, .pick (.t 33) (.t 34) (.c (.bool false))⟩,
  ⟨some 36, none, .mov (.t 35)⟩,
  ⟨some 37, some (36, true), .mov (.t 4)⟩,
  ⟨some 38, some (36, true), .b2s (.t 37)⟩,
  ⟨some 39, some (36, true), .bin .eql (.t 38) (.c (.string ⟨#[98, 97]⟩))⟩,
  ⟨some 40, none, .pick (.t 36) (.t 39) (.c (.bool false))⟩,
  ⟨some 41, none, .mov (.t 40)⟩,
  ⟨some 42, some (41, true), .mov (.t 6)⟩,
  ⟨some 43, some (41, true), .un .not (.t 42)⟩,
  ⟨some 44, none, .pick (.t 41) (.t 43) (.c (.bool false))⟩,
  ⟨some 45, none, .mov (.t 44)⟩,
  ⟨some 46, some (45, true), .mov (.t 1)⟩,
  ⟨some 47, some (45, true), .call n_input_Plan_Left [(.t 46)]⟩,
  ⟨some 48, some (45, true), .bin .eql (.t 47) (.c (.int .i64 0))⟩,
  ⟨some 49, none, .pick (.t 45) (.t 48) (.c (.bool false))⟩,
  ⟨some 0, none, .mov (.t 49)⟩])
  (.ret)
def c1_pianolalaw24_known : C :=
 .seq (.ops [⟨some 24, none, .mov (.t 1)⟩,
  ⟨some 25, none, .call n_input_Plan_Take [(.t 24), (.c (.int .i64 9))]⟩,
  ⟨some 4, none, .mov (.t 25)⟩])
  (.seq (.ops [⟨some 27, none, .mov (.t 1)⟩,
  ⟨some 28, none, .call n_input_Plan_Next [(.t 27)]⟩,
  ⟨some 26, none, .mov (.t 28)⟩,
  ⟨some 29, none, .ext (.t 26) 0⟩,
  ⟨some 30, none, .ext (.t 26) 1⟩,
  ⟨some 5, none, .mov (.t 29)⟩,
  ⟨some 6, none, .mov (.t 30)⟩])
  (c0_pianolalaw24_known))
def c2_pianolalaw24_known : C :=
 .seq (.seq (.ops [⟨some 11, none, .mov (.t 1)⟩,
  ⟨some 12, none, .eqn 0 false (.t 11)⟩,
  ⟨some 13, none, .mov (.t 12)⟩,
  ⟨some 14, some (13, false), .mov (.t 1)⟩,
  ⟨some 15, some (13, false), .call n_input_Plan_Take [(.t 14), (.c (.int .i64 1))]⟩,
  ⟨some 16, some (13, false), .len 1 (.t 15)⟩,
  ⟨some 17, some (13, false), .bin .neq (.t 16) (.c (.int .i64 0))⟩,
  ⟨some 18, none, .pick (.t 13) (.c (.bool true)) (.t 17)⟩])
  (.cond (.t 18)
  (.seq (.ops [⟨some 0, none, .mov (.c (.bool false))⟩])
  (.ret))
  (.skip)))
  (.seq (.ops [⟨some 20, none, .mov (.t 1)⟩,
  ⟨some 21, none, .call n_input_Plan_Next [(.t 20)]⟩,
  ⟨some 19, none, .mov (.t 21)⟩,
  ⟨some 22, none, .ext (.t 19) 0⟩,
  ⟨some 23, none, .ext (.t 19) 1⟩,
  ⟨some 2, none, .mov (.t 22)⟩,
  ⟨some 3, none, .mov (.t 23)⟩])
  (c1_pianolalaw24_known))
def c3_pianolalaw24_known : C :=
 .seq (.ops [⟨some 7, none, .build [(.int .i64 0), (.int .u8 0)] [(0, 1, (.c (.int .i64 5))), (1, 1, (.c (.int .u8 97)))]⟩,
  ⟨some 8, none, .build [(.int .i64 0), (.int .u8 0)] [(0, 1, (.c (.int .i64 2))), (1, 1, (.c (.int .u8 98)))]⟩,
  ⟨some 9, none, .bsl 2 [(.int .i64 0), (.int .u8 0), (.int .i64 0), (.int .u8 0)] [(0, 2, (.t 7)), (2, 2, (.t 8))]⟩,
  ⟨some 10, none, .call n_input_New [(.t 9)]⟩,
  ⟨some 1, none, .mov (.t 10)⟩])
  (c2_pianolalaw24_known)
def c_pianolalaw24_known : C :=
 .seq (.ops [⟨some 0, none, .mov (.c (.bool false))⟩])
  (c3_pianolalaw24_known)
def f_pianolalaw24_known : F := ⟨c_pianolalaw24_known, [.t 0], some []⟩
theorem h_pianolalaw24_known : compF Try.prog (compAny Try.prog) n_pianolalaw24_known = some (f_pianolalaw24_known.body, f_pianolalaw24_known.res) := by kernel_rfl
def c0_pianolabook_Roomy_input_Key : C :=
 .seq (.block 1
  (.ops [⟨some 22, none, .mov (.t 5)⟩,
  ⟨some 23, none, .mov (.t 6)⟩,
  ⟨some 24, none, .ldn 2 (.t 3)⟩,
  ⟨some 25, none, .ia 2 (.t 22) (.t 23)⟩,
  ⟨none, none, .stn 2 (.t 25) (.t 24)⟩]))
  (.ops [⟨some 20, none, .mov (.t 6)⟩,
  ⟨some 21, none, .bin .add (.t 20) (.c (.int .i64 1))⟩,
  ⟨some 6, none, .mov (.t 21)⟩])
def c1_pianolabook_Roomy_input_Key : C :=
 .seq (.seq (.ops [⟨some 16, none, .mov (.t 6)⟩,
  ⟨some 17, none, .mov (.t 5)⟩,
  ⟨some 18, none, .len 1 (.t 17)⟩,
  ⟨some 19, none, .bin .lss (.t 16) (.t 18)⟩])
  (.cond (.t 19)
  (.skip)
  (.exit 0)))
  (c0_pianolabook_Roomy_input_Key)
def c2_pianolabook_Roomy_input_Key : C :=
 .seq (.ops [⟨some 11, none, .mov (.t 5)⟩,
  ⟨some 12, none, .mov (.t 0)⟩,
  ⟨some 13, none, .cpy 2 (.t 11) (.t 12)⟩])
  (.seq (.seq (.ops [⟨some 14, none, .mov (.t 0)⟩,
  ⟨some 15, none, .len 1 (.t 14)⟩,
  ⟨some 6, none, .mov (.t 15)⟩])
  (.block 0
  (.loop c1_pianolabook_Roomy_input_Key)))
  (.seq (.ops [⟨some 26, none, .mov (.t 5)⟩,
  ⟨some 4, none, .mov (.t 26)⟩])
  (.ret)))
def c_pianolabook_Roomy_input_Key : C :=
 .seq (.ops [⟨some 3, none, .box (.t 1)⟩,
  ⟨some 4, none, .mov (.c (.slice none 0 0))⟩])
  (.seq (.ops [⟨some 7, none, .mov (.t 0)⟩,
  ⟨some 8, none, .len 1 (.t 7)⟩,
  ⟨some 9, none, .bin .add (.t 8) (.c (.int .i64 80))⟩,
  ⟨some 10, none, .mks [(.int .i64 0), (.int .u8 0)] 16 (.t 9) (.t 9)⟩,
  ⟨some 5, none, .mov (.t 10)⟩])
  (c2_pianolabook_Roomy_input_Key))
def f_pianolabook_Roomy_input_Key : F := ⟨c_pianolabook_Roomy_input_Key, [.t 4], some []⟩
theorem h_pianolabook_Roomy_input_Key : compF Try.prog (compAny Try.prog) n_pianolabook_Roomy_input_Key = some (f_pianolabook_Roomy_input_Key.body, f_pianolabook_Roomy_input_Key.res) := by kernel_rfl
def c0_pianolalaw24_sorted : C :=
 .seq (.seq (.any 0 [.op 0 ⟨some 18, none, .mov (.t 5)⟩,
  .op 1 ⟨some 19, none, .bin .gtr (.t 18) (.c (.int .i64 0))⟩,
  .op 2 ⟨some 20, none, .mov (.t 19)⟩,
  .op 3 ⟨some 21, some (20, true), .mov (.t 3)⟩,
  .op 4 ⟨some 22, some (20, true), .mov (.t 5)⟩,
  .op 5 ⟨some 23, some (20, true), .bin .sub (.t 22) (.c (.int .i64 1))⟩,
  .op 6 ⟨some 24, some (20, true), .ia 2 (.t 21) (.t 23)⟩,
  .op 7 ⟨some 25, some (20, true), .fa 0 (.t 24)⟩,
  .op 8 ⟨some 26, some (20, true), .ld (.t 25)⟩,
  .op 9 ⟨some 27, some (20, true), .mov (.t 0)⟩,
  .op 10 ⟨some 28, some (20, true), .mov (.t 4)⟩,
  .op 11 ⟨some 29, some (20, true), .ia 2 (.t 27) (.t 28)⟩,
  .op 12 ⟨some 30, some (20, true), .fa 0 (.t 29)⟩,
  .op 13 ⟨some 31, some (20, true), .ld (.t 30)⟩,
  .op 14 ⟨some 32, some (20, true), .bin .gtr (.t 26) (.t 31)⟩,
  .op 15 ⟨some 33, none, .pick (.t 20) (.t 32) (.c (.bool false))⟩])
  (.cond (.t 33)
  (.skip)
  (.exit 2)))
  (.block 3
  (.ops [⟨some 34, none, .mov (.t 5)⟩,
  ⟨some 35, none, .bin .sub (.t 34) (.c (.int .i64 1))⟩,
  ⟨some 5, none, .mov (.t 35)⟩]))
def c1_pianolalaw24_sorted : C :=
 .any 2 [.op 5 ⟨some 41, none, .mov (.t 0)⟩,
  .op 6 ⟨some 42, none, .mov (.t 4)⟩,
  .op 7 ⟨some 43, none, .ia 2 (.t 41) (.t 42)⟩,
  .op 8 ⟨some 44, none, .ldn 2 (.t 43)⟩,
  .al 0 0 ⟨some 36, none, .bsl 0 [] []⟩,
  .op 1 ⟨some 37, none, .mov (.t 3)⟩,
  .op 2 ⟨some 38, none, .mov (.t 5)⟩,
  .op 3 ⟨some 39, none, .sl 2 (.t 37) none (some (.t 38)) none⟩,
  .op 4 ⟨some 40, none, .app 2 16 (.t 36) (.t 39)⟩,
  .re 8 ⟨some 44, none, .ldn 2 (.t 43)⟩,
  .al 9 1 ⟨some 45, none, .bsl 1 [(.int .i64 0), (.int .u8 0)] [(0, 2, (.t 44))]⟩,
  .op 10 ⟨some 46, none, .app 2 16 (.t 40) (.t 45)⟩,
  .op 11 ⟨some 47, none, .mov (.t 3)⟩,
  .op 12 ⟨some 48, none, .mov (.t 5)⟩,
  .op 13 ⟨some 49, none, .sl 2 (.t 47) (some (.t 48)) none none⟩,
  .op 14 ⟨some 50, none, .app 2 16 (.t 46) (.t 49)⟩,
  .op 15 ⟨some 3, none, .mov (.t 50)⟩]
def c2_pianolalaw24_sorted : C :=
 .seq (.seq (.ops [⟨some 6, none, .mov (.t 4)⟩,
  ⟨some 7, none, .mov (.t 0)⟩,
  ⟨some 8, none, .len 1 (.t 7)⟩,
  ⟨some 9, none, .bin .lss (.t 6) (.t 8)⟩,
  ⟨some 10, none, .mov (.t 9)⟩,
  ⟨some 11, some (10, true), .mov (.t 4)⟩,
  ⟨some 12, some (10, true), .bin .lss (.t 11) (.c (.int .i64 256))⟩,
  ⟨some 13, none, .pick (.t 10) (.t 12) (.c (.bool false))⟩])
  (.cond (.t 13)
  (.skip)
  (.exit 0)))
  (.seq (.block 1
  (.seq (.ops [⟨some 16, none, .mov (.t 3)⟩,
  ⟨some 17, none, .len 1 (.t 16)⟩,
  ⟨some 5, none, .mov (.t 17)⟩])
  (.seq (.block 2
  (.loop c0_pianolalaw24_sorted))
  (c1_pianolalaw24_sorted))))
  (.ops [⟨some 14, none, .mov (.t 4)⟩,
  ⟨some 15, none, .bin .add (.t 14) (.c (.int .i64 1))⟩,
  ⟨some 4, none, .mov (.t 15)⟩]))
def c_pianolalaw24_sorted : C :=
 .seq (.ops [⟨some 2, none, .mov (.c (.slice none 0 0))⟩])
  (.seq (.ops [⟨some 3, none, .mov (.c (.slice none 0 0))⟩])
  (.seq (.seq (.ops [⟨some 4, none, .mov (.c (.int .i64 0))⟩])
  (.block 0
  (.loop c2_pianolalaw24_sorted)))
  (.seq (.ops [⟨some 51, none, .mov (.t 3)⟩,
  ⟨some 2, none, .mov (.t 51)⟩])
  (.ret))))
def f_pianolalaw24_sorted : F := ⟨c_pianolalaw24_sorted, [.t 2], some []⟩
theorem h_pianolalaw24_sorted : compF Try.prog (compAny Try.prog) n_pianolalaw24_sorted = some (f_pianolalaw24_sorted.body, f_pianolalaw24_sorted.res) := by kernel_rfl
def c0_input_Plan_Next : C :=
 .seq (.ops [⟨some 10, none, .mov (.t 0)⟩,
  ⟨some 11, none, .nilc (.t 10)⟩,
  ⟨some 12, none, .fa 0 (.t 11)⟩,
  ⟨some 13, none, .ld (.t 12)⟩,
  ⟨some 14, none, .ia 2 (.t 13) (.c (.int .i64 0))⟩,
  ⟨some 15, none, .fa 0 (.t 14)⟩,
  ⟨some 16, none, .ld (.t 15)⟩,
  ⟨some 2, none, .mov (.t 16)⟩,
  ⟨some 3, none, .mov (.c (.bool true))⟩])
  (.ret)
def c1_input_Plan_Next : C :=
 .seq (.seq (.ops [⟨some 4, none, .mov (.t 0)⟩,
  ⟨some 5, none, .nilc (.t 4)⟩,
  ⟨some 6, none, .fa 0 (.t 5)⟩,
  ⟨some 7, none, .ld (.t 6)⟩,
  ⟨some 8, none, .len 1 (.t 7)⟩,
  ⟨some 9, none, .bin .eql (.t 8) (.c (.int .i64 0))⟩])
  (.cond (.t 9)
  (.seq (.ops [⟨some 2, none, .mov (.c (.int .i64 0))⟩,
  ⟨some 3, none, .mov (.c (.bool false))⟩])
  (.ret))
  (.skip)))
  (c0_input_Plan_Next)
def c_input_Plan_Next : C :=
 .seq (.ops [⟨some 2, none, .mov (.c (.int .i64 0))⟩,
  ⟨some 3, none, .mov (.c (.bool false))⟩])
  (c1_input_Plan_Next)
def f_input_Plan_Next : F := ⟨c_input_Plan_Next, [.t 2, .t 3], some []⟩
theorem h_input_Plan_Next : compF Try.prog (compAny Try.prog) n_input_Plan_Next = some (f_input_Plan_Next.body, f_input_Plan_Next.res) := by kernel_rfl
def c0_input_Plan_Take : C :=
 .ops [⟨some 33, none, .mov (.t 0)⟩,
  ⟨some 34, none, .mov (.t 0)⟩,
  ⟨some 35, none, .nilc (.t 34)⟩,
  ⟨some 36, none, .fa 0 (.t 35)⟩,
  ⟨some 37, none, .ld (.t 36)⟩,
  ⟨some 38, none, .sl 2 (.t 37) (some (.c (.int .i64 1))) none none⟩,
  ⟨some 39, none, .nilc (.t 33)⟩,
  ⟨some 40, none, .fa 0 (.t 39)⟩,
  ⟨none, none, .st (.t 40) (.t 38)⟩]
def c1_input_Plan_Take : C :=
 .block 1
  (.seq (.ops [⟨some 23, none, .mov (.t 5)⟩,
  ⟨some 24, none, .mov (.t 0)⟩,
  ⟨some 25, none, .nilc (.t 24)⟩,
  ⟨some 26, none, .fa 0 (.t 25)⟩,
  ⟨some 27, none, .ld (.t 26)⟩,
  ⟨some 28, none, .ia 2 (.t 27) (.c (.int .i64 0))⟩,
  ⟨some 29, none, .fa 1 (.t 28)⟩,
  ⟨some 30, none, .ld (.t 29)⟩,
  ⟨some 31, none, .bsl 1 [(.int .u8 0)] [(0, 1, (.t 30))]⟩,
  ⟨some 32, none, .app 1 1 (.t 23) (.t 31)⟩,
  ⟨some 5, none, .mov (.t 32)⟩])
  (c0_input_Plan_Take))
def c2_input_Plan_Take : C :=
 .seq (.seq (.ops [⟨some 6, none, .mov (.t 0)⟩,
  ⟨some 7, none, .nilc (.t 6)⟩,
  ⟨some 8, none, .fa 0 (.t 7)⟩,
  ⟨some 9, none, .ld (.t 8)⟩,
  ⟨some 10, none, .len 1 (.t 9)⟩,
  ⟨some 11, none, .bin .gtr (.t 10) (.c (.int .i64 0))⟩,
  ⟨some 12, none, .mov (.t 11)⟩,
  ⟨some 13, some (12, true), .mov (.t 0)⟩,
  ⟨some 14, some (12, true), .nilc (.t 13)⟩,
  ⟨some 15, some (12, true), .fa 0 (.t 14)⟩,
  ⟨some 16, some (12, true), .ld (.t 15)⟩,
  ⟨some 17, some (12, true), .ia 2 (.t 16) (.c (.int .i64 0))⟩,
  ⟨some 18, some (12, true), .fa 0 (.t 17)⟩,
  ⟨some 19, some (12, true), .ld (.t 18)⟩,
  ⟨some 20, some (12, true), .mov (.t 1)⟩,
  ⟨some 21, some (12, true), .bin .leq (.t 19) (.t 20)⟩,
  ⟨some 22, none, .pick (.t 12) (.t 21) (.c (.bool false))⟩])
  (.cond (.t 22)
  (.skip)
  (.exit 0)))
  (c1_input_Plan_Take)
def c_input_Plan_Take : C :=
 .seq (.ops [⟨some 4, none, .mov (.c (.slice none 0 0))⟩])
  (.seq (.ops [⟨some 5, none, .mov (.c (.slice none 0 0))⟩])
  (.seq (.block 0
  (.loop c2_input_Plan_Take))
  (.seq (.ops [⟨some 41, none, .mov (.t 5)⟩,
  ⟨some 4, none, .mov (.t 41)⟩])
  (.ret))))
def f_input_Plan_Take : F := ⟨c_input_Plan_Take, [.t 4], some []⟩
theorem h_input_Plan_Take : compF Try.prog (compAny Try.prog) n_input_Plan_Take = some (f_input_Plan_Take.body, f_input_Plan_Take.res) := by kernel_rfl
def c0_pianolabook_Intact_input_Key : C :=
 .seq (.block 1
  (.seq (.any 0 [.op 0 ⟨some 31, none, .mov (.t 0)⟩,
  .op 1 ⟨some 32, none, .mov (.t 7)⟩,
  .op 2 ⟨some 33, none, .ia 2 (.t 31) (.t 32)⟩,
  .op 3 ⟨some 34, none, .ldn 2 (.t 33)⟩,
  .op 4 ⟨some 35, none, .ldn 2 (.t 5)⟩,
  .op 5 ⟨some 36, none, .eqt true (.agg [(0, 1, false, (.int .i64)), (1, 1, false, (.int .u8))]) (.t 34) (.t 35)⟩])
  (.cond (.t 36)
  (.seq (.ops [⟨some 6, none, .mov (.c (.bool false))⟩])
  (.ret))
  (.skip))))
  (.ops [⟨some 29, none, .mov (.t 7)⟩,
  ⟨some 30, none, .bin .add (.t 29) (.c (.int .i64 1))⟩,
  ⟨some 7, none, .mov (.t 30)⟩])
def c1_pianolabook_Intact_input_Key : C :=
 .seq (.seq (.ops [⟨some 25, none, .mov (.t 7)⟩,
  ⟨some 26, none, .mov (.t 0)⟩,
  ⟨some 27, none, .len 1 (.t 26)⟩,
  ⟨some 28, none, .bin .lss (.t 25) (.t 27)⟩])
  (.cond (.t 28)
  (.skip)
  (.exit 0)))
  (c0_pianolabook_Intact_input_Key)
def c2_pianolabook_Intact_input_Key : C :=
 .seq (.seq (.ops [⟨some 8, none, .mov (.t 0)⟩,
  ⟨some 9, none, .len 1 (.t 8)⟩,
  ⟨some 10, none, .mov (.t 1)⟩,
  ⟨some 11, none, .len 1 (.t 10)⟩,
  ⟨some 12, none, .bin .add (.t 11) (.c (.int .i64 80))⟩,
  ⟨some 13, none, .bin .neq (.t 9) (.t 12)⟩,
  ⟨some 14, none, .mov (.t 13)⟩,
  ⟨some 15, some (14, false), .mov (.t 0)⟩,
  ⟨some 16, some (14, false), .mov (.t 1)⟩,
  ⟨some 17, some (14, false), .len 1 (.t 16)⟩,
  ⟨some 18, some (14, false), .sl 2 (.t 15) none (some (.t 17)) none⟩,
  ⟨some 19, some (14, false), .mov (.t 1)⟩,
  ⟨some 20, some (14, false), .call n_pianolabook_Same_input_Key [(.t 18), (.t 19)]⟩,
  ⟨some 21, some (14, false), .un .not (.t 20)⟩,
  ⟨some 22, none, .pick (.t 14) (.c (.bool true)) (.t 21)⟩])
  (.cond (.t 22)
  (.seq (.ops [⟨some 6, none, .mov (.c (.bool false))⟩])
  (.ret))
  (.skip)))
  (.seq (.seq (.ops [⟨some 23, none, .mov (.t 1)⟩,
  ⟨some 24, none, .len 1 (.t 23)⟩,
  ⟨some 7, none, .mov (.t 24)⟩])
  (.block 0
  (.loop c1_pianolabook_Intact_input_Key)))
  (.seq (.ops [⟨some 6, none, .mov (.c (.bool true))⟩])
  (.ret)))
def c_pianolabook_Intact_input_Key : C :=
 .seq (.ops [⟨some 5, none, .box (.t 2)⟩,
  ⟨some 6, none, .mov (.c (.bool false))⟩])
  (c2_pianolabook_Intact_input_Key)
def f_pianolabook_Intact_input_Key : F := ⟨c_pianolabook_Intact_input_Key, [.t 6], some []⟩
theorem h_pianolabook_Intact_input_Key : compF Try.prog (compAny Try.prog) n_pianolabook_Intact_input_Key = some (f_pianolabook_Intact_input_Key.body, f_pianolabook_Intact_input_Key.res) := by kernel_rfl
def c0_slices_Clone_input_Key_input_Key : C :=
 .seq (.seq (.ops [⟨some 3, none, .mov (.t 0)⟩,
  ⟨some 4, none, .eqn 1 false (.t 3)⟩])
  (.cond (.t 4)
  (.seq (.ops [⟨some 2, none, .mov (.c (.slice none 0 0))⟩])
  (.ret))
  (.skip)))
  (.seq (.ops [⟨some 5, none, .bsl 0 [] []⟩,
  ⟨some 6, none, .mov (.t 0)⟩,
  ⟨some 7, none, .app 2 16 (.t 5) (.t 6)⟩,
  ⟨some 2, none, .mov (.t 7)⟩])
  (.ret))
def c_slices_Clone_input_Key_input_Key : C :=
 .seq (.ops [⟨some 2, none, .mov (.c (.slice none 0 0))⟩])
  (c0_slices_Clone_input_Key_input_Key)
def f_slices_Clone_input_Key_input_Key : F := ⟨c_slices_Clone_input_Key_input_Key, [.t 2], some []⟩
theorem h_slices_Clone_input_Key_input_Key : compF Try.prog (compAny Try.prog) n_slices_Clone_input_Key_input_Key = some (f_slices_Clone_input_Key_input_Key.body, f_slices_Clone_input_Key_input_Key.res) := by kernel_rfl
def c_slices_SortStableFunc_input_Key_input_Key : C :=
 .ops [⟨some 4, none, .mov (.t 0)⟩,
  ⟨some 5, none, .mov (.t 0)⟩,
  ⟨some 6, none, .len 1 (.t 5)⟩,
  ⟨some 7, none, .mov (.t 1)⟩,
  ⟨some 8, none, .call n_slices_stableCmpFunc_input_Key [(.t 4), (.t 6), (.t 7)]⟩]
def f_slices_SortStableFunc_input_Key_input_Key : F := ⟨c_slices_SortStableFunc_input_Key_input_Key, [], some []⟩
theorem h_slices_SortStableFunc_input_Key_input_Key : compF Try.prog (compAny Try.prog) n_slices_SortStableFunc_input_Key_input_Key = some (f_slices_SortStableFunc_input_Key_input_Key.body, f_slices_SortStableFunc_input_Key_input_Key.res) := by kernel_rfl
def c_input_New_1 : C :=
 .seq (.ops [⟨some 2, none, .box (.t 0)⟩,
  ⟨some 3, none, .box (.t 1)⟩,
  ⟨some 4, none, .mov (.c (.int .i64 0))⟩])
  (.seq (.ops [⟨some 5, none, .fa 0 (.t 2)⟩,
  ⟨some 6, none, .ld (.t 5)⟩,
  ⟨some 7, none, .fa 0 (.t 3)⟩,
  ⟨some 8, none, .ld (.t 7)⟩,
  ⟨some 9, none, .call n_cmp_Compare_int64 [(.t 6), (.t 8)]⟩,
  ⟨some 4, none, .mov (.t 9)⟩])
  (.ret))
def f_input_New_1 : F := ⟨c_input_New_1, [.t 4], some []⟩
theorem h_input_New_1 : compF Try.prog (compAny Try.prog) n_input_New_1 = some (f_input_New_1.body, f_input_New_1.res) := by kernel_rfl
def c0_cmp_Compare_int64 : C :=
 .seq (.seq (.ops [⟨some 14, none, .mov (.t 0)⟩,
  ⟨some 15, none, .mov (.t 1)⟩,
  ⟨some 16, none, .bin .lss (.t 14) (.t 15)⟩])
  (.cond (.t 16)
  (.seq (.ops [⟨some 4, none, .mov (.c (.int .i64 (-1)))⟩])
  (.ret))
  (.skip)))
  (.seq (.seq (.ops [⟨some 17, none, .mov (.t 0)⟩,
  ⟨some 18, none, .mov (.t 1)⟩,
  ⟨some 19, none, .bin .gtr (.t 17) (.t 18)⟩])
  (.cond (.t 19)
  (.seq (.ops [⟨some 4, none, .mov (.c (.int .i64 1))⟩])
  (.ret))
  (.skip)))
  (.seq (.ops [⟨some 4, none, .mov (.c (.int .i64 0))⟩])
  (.ret)))
def c1_cmp_Compare_int64 : C :=
 .seq (.seq (.ops [⟨some 11, none, .mov (.t 5)⟩])
  (.cond (.t 11)
  (.seq (.seq (.ops [⟨some 12, none, .mov (.t 6)⟩])
  (.cond (.t 12)
  (.seq (.ops [⟨some 4, none, .mov (.c (.int .i64 0))⟩])
  (.ret))
  (.skip)))
  (.seq (.ops [⟨some 4, none, .mov (.c (.int .i64 (-1)))⟩])
  (.ret)))
  (.skip)))
  (.seq (.seq (.ops [⟨some 13, none, .mov (.t 6)⟩])
  (.cond (.t 13)
  (.seq (.ops [⟨some 4, none, .mov (.c (.int .i64 1))⟩])
  (.ret))
  (.skip)))
  (c0_cmp_Compare_int64))
def c_cmp_Compare_int64 : C :=
 .seq (.ops [⟨some 4, none, .mov (.c (.int .i64 0))⟩])
  (.seq (.ops [⟨some 7, none, .mov (.t 0)⟩,
  ⟨some 8, none, .call n_cmp_isNaN_int64 [(.t 7)]⟩,
  ⟨some 5, none, .mov (.t 8)⟩])
  (.seq (.ops [⟨some 9, none, .mov (.t 1)⟩,
  ⟨some 10, none, .call n_cmp_isNaN_int64 [(.t 9)]⟩,
  ⟨some 6, none, .mov (.t 10)⟩])
  (c1_cmp_Compare_int64)))
def f_cmp_Compare_int64 : F := ⟨c_cmp_Compare_int64, [.t 4], some []⟩
theorem h_cmp_Compare_int64 : compF Try.prog (compAny Try.prog) n_cmp_Compare_int64 = some (f_cmp_Compare_int64.body, f_cmp_Compare_int64.res) := by kernel_rfl
def c0_pianolabook_Same_input_Key : C :=
 .seq (.block 1
  (.seq (.any 0 [.op 0 ⟨some 17, none, .mov (.t 0)⟩,
  .op 1 ⟨some 18, none, .mov (.t 5)⟩,
  .op 2 ⟨some 19, none, .ia 2 (.t 17) (.t 18)⟩,
  .op 3 ⟨some 20, none, .ldn 2 (.t 19)⟩,
  .op 4 ⟨some 21, none, .mov (.t 1)⟩,
  .op 5 ⟨some 22, none, .mov (.t 5)⟩,
  .op 6 ⟨some 23, none, .ia 2 (.t 21) (.t 22)⟩,
  .op 7 ⟨some 24, none, .ldn 2 (.t 23)⟩,
  .op 8 ⟨some 25, none, .eqt true (.agg [(0, 1, false, (.int .i64)), (1, 1, false, (.int .u8))]) (.t 20) (.t 24)⟩])
  (.cond (.t 25)
  (.seq (.ops [⟨some 4, none, .mov (.c (.bool false))⟩])
  (.ret))
  (.skip))))
  (.ops [⟨some 15, none, .mov (.t 5)⟩,
  ⟨some 16, none, .bin .add (.t 15) (.c (.int .i64 1))⟩,
  ⟨some 5, none, .mov (.t 16)⟩])
def c1_pianolabook_Same_input_Key : C :=
 .seq (.seq (.ops [⟨some 11, none, .mov (.t 5)⟩,
  ⟨some 12, none, .mov (.t 0)⟩,
  ⟨some 13, none, .len 1 (.t 12)⟩,
  ⟨some 14, none, .bin .lss (.t 11) (.t 13)⟩])
  (.cond (.t 14)
  (.skip)
  (.exit 0)))
  (c0_pianolabook_Same_input_Key)
def c2_pianolabook_Same_input_Key : C :=
 .seq (.seq (.ops [⟨some 6, none, .mov (.t 0)⟩,
  ⟨some 7, none, .len 1 (.t 6)⟩,
  ⟨some 8, none, .mov (.t 1)⟩,
  ⟨some 9, none, .len 1 (.t 8)⟩,
  ⟨some 10, none, .bin .neq (.t 7) (.t 9)⟩])
  (.cond (.t 10)
  (.seq (.ops [⟨some 4, none, .mov (.c (.bool false))⟩])
  (.ret))
  (.skip)))
  (.seq (.seq (.ops [⟨some 5, none, .mov (.c (.int .i64 0))⟩])
  (.block 0
  (.loop c1_pianolabook_Same_input_Key)))
  (.seq (.ops [⟨some 4, none, .mov (.c (.bool true))⟩])
  (.ret)))
def c_pianolabook_Same_input_Key : C :=
 .seq (.ops [⟨some 4, none, .mov (.c (.bool false))⟩])
  (c2_pianolabook_Same_input_Key)
def f_pianolabook_Same_input_Key : F := ⟨c_pianolabook_Same_input_Key, [.t 4], some []⟩
theorem h_pianolabook_Same_input_Key : compF Try.prog (compAny Try.prog) n_pianolabook_Same_input_Key = some (f_pianolabook_Same_input_Key.body, f_pianolabook_Same_input_Key.res) := by kernel_rfl
end Go.Proofs.Ytppgoobhlcdbbaa.Cd

set_option maxRecDepth 100000
set_option linter.defProp false
namespace Go.Proofs.Ytppgoobhlcdbbaa.Cd
open Go Go.Dx
def c0_slices_stableCmpFunc_input_Key : C :=
 .block 1
  (.seq (.ops [⟨some 14, none, .mov (.t 0)⟩,
  ⟨some 15, none, .mov (.t 7)⟩,
  ⟨some 16, none, .mov (.t 8)⟩,
  ⟨some 17, none, .mov (.t 2)⟩,
  ⟨some 18, none, .call n_slices_insertionSortCmpFunc_input_Key [(.t 14), (.t 15), (.t 16), (.t 17)]⟩])
  (.seq (.ops [⟨some 19, none, .mov (.t 8)⟩,
  ⟨some 7, none, .mov (.t 19)⟩])
  (.ops [⟨some 20, none, .mov (.t 8)⟩,
  ⟨some 21, none, .mov (.t 6)⟩,
  ⟨some 22, none, .bin .add (.t 20) (.t 21)⟩,
  ⟨some 8, none, .mov (.t 22)⟩])))
def c1_slices_stableCmpFunc_input_Key : C :=
 .seq (.seq (.ops [⟨some 11, none, .mov (.t 8)⟩,
  ⟨some 12, none, .mov (.t 1)⟩,
  ⟨some 13, none, .bin .leq (.t 11) (.t 12)⟩])
  (.cond (.t 13)
  (.skip)
  (.exit 0)))
  (c0_slices_stableCmpFunc_input_Key)
def c2_slices_stableCmpFunc_input_Key : C :=
 .block 5
  (.seq (.ops [⟨some 36, none, .mov (.t 0)⟩,
  ⟨some 37, none, .mov (.t 7)⟩,
  ⟨some 38, none, .mov (.t 7)⟩,
  ⟨some 39, none, .mov (.t 6)⟩,
  ⟨some 40, none, .bin .add (.t 38) (.t 39)⟩,
  ⟨some 41, none, .mov (.t 8)⟩,
  ⟨some 42, none, .mov (.t 2)⟩,
  ⟨some 43, none, .call n_slices_symMergeCmpFunc_input_Key [(.t 36), (.t 37), (.t 40), (.t 41), (.t 42)]⟩])
  (.seq (.ops [⟨some 44, none, .mov (.t 8)⟩,
  ⟨some 7, none, .mov (.t 44)⟩])
  (.ops [⟨some 45, none, .mov (.t 8)⟩,
  ⟨some 46, none, .mov (.t 6)⟩,
  ⟨some 47, none, .bin .mul (.c (.int .i64 2)) (.t 46)⟩,
  ⟨some 48, none, .bin .add (.t 45) (.t 47)⟩,
  ⟨some 8, none, .mov (.t 48)⟩])))
def c3_slices_stableCmpFunc_input_Key : C :=
 .seq (.seq (.ops [⟨some 33, none, .mov (.t 8)⟩,
  ⟨some 34, none, .mov (.t 1)⟩,
  ⟨some 35, none, .bin .leq (.t 33) (.t 34)⟩])
  (.cond (.t 35)
  (.skip)
  (.exit 4)))
  (c2_slices_stableCmpFunc_input_Key)
def c4_slices_stableCmpFunc_input_Key : C :=
 .seq (.ops [⟨some 52, none, .mov (.t 9)⟩,
  ⟨some 53, none, .mov (.t 1)⟩,
  ⟨some 54, none, .bin .lss (.t 52) (.t 53)⟩])
  (.cond (.t 54)
  (.ops [⟨some 55, none, .mov (.t 0)⟩,
  ⟨some 56, none, .mov (.t 7)⟩,
  ⟨some 57, none, .mov (.t 9)⟩,
  ⟨some 58, none, .mov (.t 1)⟩,
  ⟨some 59, none, .mov (.t 2)⟩,
  ⟨some 60, none, .call n_slices_symMergeCmpFunc_input_Key [(.t 55), (.t 56), (.t 57), (.t 58), (.t 59)]⟩])
  (.skip))
def c5_slices_stableCmpFunc_input_Key : C :=
 .seq (.block 4
  (.loop c3_slices_stableCmpFunc_input_Key))
  (.seq (.seq (.ops [⟨some 49, none, .mov (.t 7)⟩,
  ⟨some 50, none, .mov (.t 6)⟩,
  ⟨some 51, none, .bin .add (.t 49) (.t 50)⟩,
  ⟨some 9, none, .mov (.t 51)⟩])
  (c4_slices_stableCmpFunc_input_Key))
  (.ops [⟨some 61, none, .mov (.t 6)⟩,
  ⟨some 62, none, .bin .mul (.t 61) (.c (.int .i64 2))⟩,
  ⟨some 6, none, .mov (.t 62)⟩]))
def c6_slices_stableCmpFunc_input_Key : C :=
 .seq (.seq (.ops [⟨some 28, none, .mov (.t 6)⟩,
  ⟨some 29, none, .mov (.t 1)⟩,
  ⟨some 30, none, .bin .lss (.t 28) (.t 29)⟩])
  (.cond (.t 30)
  (.skip)
  (.exit 2)))
  (.block 3
  (.seq (.ops [⟨some 31, none, .mov (.t 6)⟩,
  ⟨some 32, none, .bin .mul (.c (.int .i64 2)) (.t 31)⟩,
  ⟨some 7, none, .mov (.c (.int .i64 0))⟩,
  ⟨some 8, none, .mov (.t 32)⟩])
  (c5_slices_stableCmpFunc_input_Key)))
def c7_slices_stableCmpFunc_input_Key : C :=
 .seq (.ops [⟨some 10, none, .mov (.t 6)⟩,
  ⟨some 7, none, .mov (.c (.int .i64 0))⟩,
  ⟨some 8, none, .mov (.t 10)⟩])
  (.seq (.block 0
  (.loop c1_slices_stableCmpFunc_input_Key))
  (.seq (.ops [⟨some 23, none, .mov (.t 0)⟩,
  ⟨some 24, none, .mov (.t 7)⟩,
  ⟨some 25, none, .mov (.t 1)⟩,
  ⟨some 26, none, .mov (.t 2)⟩,
  ⟨some 27, none, .call n_slices_insertionSortCmpFunc_input_Key [(.t 23), (.t 24), (.t 25), (.t 26)]⟩])
  (.block 2
  (.loop c6_slices_stableCmpFunc_input_Key))))
def c_slices_stableCmpFunc_input_Key : C :=
 .seq (.ops [⟨some 6, none, .mov (.c (.int .i64 20))⟩])
  (c7_slices_stableCmpFunc_input_Key)
def f_slices_stableCmpFunc_input_Key : F := ⟨c_slices_stableCmpFunc_input_Key, [], some []⟩
theorem h_slices_stableCmpFunc_input_Key : compF Try.prog (compAny Try.prog) n_slices_stableCmpFunc_input_Key = some (f_slices_stableCmpFunc_input_Key.body, f_slices_stableCmpFunc_input_Key.res) := by kernel_rfl
def c_cmp_isNaN_int64 : C :=
 .seq (.ops [⟨some 2, none, .mov (.c (.bool false))⟩])
  (.seq (.ops [⟨some 3, none, .mov (.t 0)⟩,
  ⟨some 4, none, .mov (.t 0)⟩,
  ⟨some 5, none, .bin .neq (.t 3) (.t 4)⟩,
  ⟨some 2, none, .mov (.t 5)⟩])
  (.ret))
def f_cmp_isNaN_int64 : F := ⟨c_cmp_isNaN_int64, [.t 2], some []⟩
theorem h_cmp_isNaN_int64 : compF Try.prog (compAny Try.prog) n_cmp_isNaN_int64 = some (f_cmp_isNaN_int64.body, f_cmp_isNaN_int64.res) := by kernel_rfl
end Go.Proofs.Ytppgoobhlcdbbaa.Cd

set_option maxRecDepth 100000
set_option linter.defProp false
namespace Go.Proofs.Ytppgoobhlcdbbaa.Cd
open Go Go.Dx
def c0_slices_insertionSortCmpFunc_input_Key : C :=
 .seq (.block 3
  (.any 0 [.op 5 ⟨some 42, none, .mov (.t 0)⟩,
  .op 6 ⟨some 43, none, .mov (.t 9)⟩,
  .op 7 ⟨some 44, none, .bin .sub (.t 43) (.c (.int .i64 1))⟩,
  .op 8 ⟨some 45, none, .ia 2 (.t 42) (.t 44)⟩,
  .op 9 ⟨some 46, none, .ldn 2 (.t 45)⟩,
  .op 10 ⟨some 47, none, .mov (.t 0)⟩,
  .op 11 ⟨some 48, none, .mov (.t 9)⟩,
  .op 12 ⟨some 49, none, .ia 2 (.t 47) (.t 48)⟩,
  .op 13 ⟨some 50, none, .ldn 2 (.t 49)⟩,
  .op 0 ⟨some 37, none, .mov (.t 0)⟩,
  .op 1 ⟨some 38, none, .mov (.t 9)⟩,
  .op 14 ⟨some 51, none, .ia 2 (.t 37) (.t 38)⟩,
  .op 15 ⟨none, none, .stn 2 (.t 51) (.t 46)⟩,
  .op 2 ⟨some 39, none, .mov (.t 0)⟩,
  .op 3 ⟨some 40, none, .mov (.t 9)⟩,
  .op 4 ⟨some 41, none, .bin .sub (.t 40) (.c (.int .i64 1))⟩,
  .op 16 ⟨some 52, none, .ia 2 (.t 39) (.t 41)⟩,
  .op 17 ⟨none, none, .stn 2 (.t 52) (.t 50)⟩]))
  (.ops [⟨some 35, none, .mov (.t 9)⟩,
  ⟨some 36, none, .bin .sub (.t 35) (.c (.int .i64 1))⟩,
  ⟨some 9, none, .mov (.t 36)⟩])
def c1_slices_insertionSortCmpFunc_input_Key : C :=
 .seq (.seq (.any 0 [.op 0 ⟨some 18, none, .mov (.t 9)⟩,
  .op 1 ⟨some 19, none, .mov (.t 1)⟩,
  .op 2 ⟨some 20, none, .bin .gtr (.t 18) (.t 19)⟩,
  .op 3 ⟨some 21, none, .mov (.t 20)⟩,
  .op 5 ⟨some 23, some (21, true), .mov (.t 0)⟩,
  .op 6 ⟨some 24, some (21, true), .mov (.t 9)⟩,
  .op 7 ⟨some 25, some (21, true), .ia 2 (.t 23) (.t 24)⟩,
  .op 8 ⟨some 26, some (21, true), .ldn 2 (.t 25)⟩,
  .op 9 ⟨some 27, some (21, true), .mov (.t 0)⟩,
  .op 10 ⟨some 28, some (21, true), .mov (.t 9)⟩,
  .op 11 ⟨some 29, some (21, true), .bin .sub (.t 28) (.c (.int .i64 1))⟩,
  .op 12 ⟨some 30, some (21, true), .ia 2 (.t 27) (.t 29)⟩,
  .op 13 ⟨some 31, some (21, true), .ldn 2 (.t 30)⟩,
  .op 4 ⟨some 22, some (21, true), .mov (.t 3)⟩,
  .op 14 ⟨some 32, some (21, true), .callv (.t 22) [(.t 26), (.t 31)]⟩,
  .op 15 ⟨some 33, some (21, true), .bin .lss (.t 32) (.c (.int .i64 0))⟩,
  .op 16 ⟨some 34, none, .pick (.t 21) (.t 33) (.c (.bool false))⟩])
  (.cond (.t 34)
  (.skip)
  (.exit 2)))
  (c0_slices_insertionSortCmpFunc_input_Key)
def c2_slices_insertionSortCmpFunc_input_Key : C :=
 .seq (.seq (.ops [⟨some 12, none, .mov (.t 8)⟩,
  ⟨some 13, none, .mov (.t 2)⟩,
  ⟨some 14, none, .bin .lss (.t 12) (.t 13)⟩])
  (.cond (.t 14)
  (.skip)
  (.exit 0)))
  (.seq (.block 1
  (.seq (.ops [⟨some 17, none, .mov (.t 8)⟩,
  ⟨some 9, none, .mov (.t 17)⟩])
  (.block 2
  (.loop c1_slices_insertionSortCmpFunc_input_Key))))
  (.ops [⟨some 15, none, .mov (.t 8)⟩,
  ⟨some 16, none, .bin .add (.t 15) (.c (.int .i64 1))⟩,
  ⟨some 8, none, .mov (.t 16)⟩]))
def c_slices_insertionSortCmpFunc_input_Key : C :=
 .seq (.ops [⟨some 10, none, .mov (.t 1)⟩,
  ⟨some 11, none, .bin .add (.t 10) (.c (.int .i64 1))⟩,
  ⟨some 8, none, .mov (.t 11)⟩])
  (.block 0
  (.loop c2_slices_insertionSortCmpFunc_input_Key))
def f_slices_insertionSortCmpFunc_input_Key : F := ⟨c_slices_insertionSortCmpFunc_input_Key, [], some []⟩
theorem h_slices_insertionSortCmpFunc_input_Key : compF Try.prog (compAny Try.prog) n_slices_insertionSortCmpFunc_input_Key = some (f_slices_insertionSortCmpFunc_input_Key.body, f_slices_insertionSortCmpFunc_input_Key.res) := by kernel_rfl
def c0_slices_symMergeCmpFunc_input_Key : C :=
 .seq (.any 0 [.op 1 ⟨some 41, none, .mov (.t 0)⟩,
  .op 2 ⟨some 42, none, .mov (.t 12)⟩,
  .op 3 ⟨some 43, none, .ia 2 (.t 41) (.t 42)⟩,
  .op 4 ⟨some 44, none, .ldn 2 (.t 43)⟩,
  .op 5 ⟨some 45, none, .mov (.t 0)⟩,
  .op 6 ⟨some 46, none, .mov (.t 1)⟩,
  .op 7 ⟨some 47, none, .ia 2 (.t 45) (.t 46)⟩,
  .op 8 ⟨some 48, none, .ldn 2 (.t 47)⟩,
  .op 0 ⟨some 40, none, .mov (.t 4)⟩,
  .op 9 ⟨some 49, none, .callv (.t 40) [(.t 44), (.t 48)]⟩,
  .op 10 ⟨some 50, none, .bin .lss (.t 49) (.c (.int .i64 0))⟩])
  (.cond (.t 50)
  (.ops [⟨some 51, none, .mov (.t 12)⟩,
  ⟨some 52, none, .bin .add (.t 51) (.c (.int .i64 1))⟩,
  ⟨some 10, none, .mov (.t 52)⟩])
  (.ops [⟨some 53, none, .mov (.t 12)⟩,
  ⟨some 11, none, .mov (.t 53)⟩]))
def c1_slices_symMergeCmpFunc_input_Key : C :=
 .block 1
  (.seq (.ops [⟨some 34, none, .mov (.t 10)⟩,
  ⟨some 35, none, .mov (.t 11)⟩,
  ⟨some 36, none, .bin .add (.t 34) (.t 35)⟩,
  ⟨some 37, none, .conv .u64 (.t 36)⟩,
  ⟨some 38, none, .bin .shr (.t 37) (.c (.int .u64 1))⟩,
  ⟨some 39, none, .conv .i64 (.t 38)⟩,
  ⟨some 12, none, .mov (.t 39)⟩])
  (c0_slices_symMergeCmpFunc_input_Key))
def c2_slices_symMergeCmpFunc_input_Key : C :=
 .seq (.seq (.ops [⟨some 31, none, .mov (.t 10)⟩,
  ⟨some 32, none, .mov (.t 11)⟩,
  ⟨some 33, none, .bin .lss (.t 31) (.t 32)⟩])
  (.cond (.t 33)
  (.skip)
  (.exit 0)))
  (c1_slices_symMergeCmpFunc_input_Key)
def c3_slices_symMergeCmpFunc_input_Key : C :=
 .seq (.block 3
  (.any 0 [.op 5 ⟨some 66, none, .mov (.t 0)⟩,
  .op 6 ⟨some 67, none, .mov (.t 13)⟩,
  .op 7 ⟨some 68, none, .bin .add (.t 67) (.c (.int .i64 1))⟩,
  .op 8 ⟨some 69, none, .ia 2 (.t 66) (.t 68)⟩,
  .op 9 ⟨some 70, none, .ldn 2 (.t 69)⟩,
  .op 10 ⟨some 71, none, .mov (.t 0)⟩,
  .op 11 ⟨some 72, none, .mov (.t 13)⟩,
  .op 12 ⟨some 73, none, .ia 2 (.t 71) (.t 72)⟩,
  .op 13 ⟨some 74, none, .ldn 2 (.t 73)⟩,
  .op 0 ⟨some 61, none, .mov (.t 0)⟩,
  .op 1 ⟨some 62, none, .mov (.t 13)⟩,
  .op 14 ⟨some 75, none, .ia 2 (.t 61) (.t 62)⟩,
  .op 15 ⟨none, none, .stn 2 (.t 75) (.t 70)⟩,
  .op 2 ⟨some 63, none, .mov (.t 0)⟩,
  .op 3 ⟨some 64, none, .mov (.t 13)⟩,
  .op 4 ⟨some 65, none, .bin .add (.t 64) (.c (.int .i64 1))⟩,
  .op 16 ⟨some 76, none, .ia 2 (.t 63) (.t 65)⟩,
  .op 17 ⟨none, none, .stn 2 (.t 76) (.t 74)⟩]))
  (.ops [⟨some 59, none, .mov (.t 13)⟩,
  ⟨some 60, none, .bin .add (.t 59) (.c (.int .i64 1))⟩,
  ⟨some 13, none, .mov (.t 60)⟩])
def c4_slices_symMergeCmpFunc_input_Key : C :=
 .seq (.seq (.ops [⟨some 55, none, .mov (.t 13)⟩,
  ⟨some 56, none, .mov (.t 10)⟩,
  ⟨some 57, none, .bin .sub (.t 56) (.c (.int .i64 1))⟩,
  ⟨some 58, none, .bin .lss (.t 55) (.t 57)⟩])
  (.cond (.t 58)
  (.skip)
  (.exit 2)))
  (c3_slices_symMergeCmpFunc_input_Key)
def c5_slices_symMergeCmpFunc_input_Key : C :=
 .seq (.ops [⟨some 29, none, .mov (.t 2)⟩,
  ⟨some 10, none, .mov (.t 29)⟩])
  (.seq (.ops [⟨some 30, none, .mov (.t 3)⟩,
  ⟨some 11, none, .mov (.t 30)⟩])
  (.seq (.block 0
  (.loop c2_slices_symMergeCmpFunc_input_Key))
  (.seq (.seq (.ops [⟨some 54, none, .mov (.t 1)⟩,
  ⟨some 13, none, .mov (.t 54)⟩])
  (.block 2
  (.loop c4_slices_symMergeCmpFunc_input_Key)))
  (.ret))))
def c6_slices_symMergeCmpFunc_input_Key : C :=
 .seq (.any 0 [.op 1 ⟨some 93, none, .mov (.t 0)⟩,
  .op 2 ⟨some 94, none, .mov (.t 2)⟩,
  .op 3 ⟨some 95, none, .ia 2 (.t 93) (.t 94)⟩,
  .op 4 ⟨some 96, none, .ldn 2 (.t 95)⟩,
  .op 5 ⟨some 97, none, .mov (.t 0)⟩,
  .op 6 ⟨some 98, none, .mov (.t 16)⟩,
  .op 7 ⟨some 99, none, .ia 2 (.t 97) (.t 98)⟩,
  .op 8 ⟨some 100, none, .ldn 2 (.t 99)⟩,
  .op 0 ⟨some 92, none, .mov (.t 4)⟩,
  .op 9 ⟨some 101, none, .callv (.t 92) [(.t 96), (.t 100)]⟩,
  .op 10 ⟨some 102, none, .bin .lss (.t 101) (.c (.int .i64 0))⟩,
  .op 11 ⟨some 103, none, .un .not (.t 102)⟩])
  (.cond (.t 103)
  (.ops [⟨some 104, none, .mov (.t 16)⟩,
  ⟨some 105, none, .bin .add (.t 104) (.c (.int .i64 1))⟩,
  ⟨some 14, none, .mov (.t 105)⟩])
  (.ops [⟨some 106, none, .mov (.t 16)⟩,
  ⟨some 15, none, .mov (.t 106)⟩]))
def c7_slices_symMergeCmpFunc_input_Key : C :=
 .block 5
  (.seq (.ops [⟨some 86, none, .mov (.t 14)⟩,
  ⟨some 87, none, .mov (.t 15)⟩,
  ⟨some 88, none, .bin .add (.t 86) (.t 87)⟩,
  ⟨some 89, none, .conv .u64 (.t 88)⟩,
  ⟨some 90, none, .bin .shr (.t 89) (.c (.int .u64 1))⟩,
  ⟨some 91, none, .conv .i64 (.t 90)⟩,
  ⟨some 16, none, .mov (.t 91)⟩])
  (c6_slices_symMergeCmpFunc_input_Key))
def c8_slices_symMergeCmpFunc_input_Key : C :=
 .seq (.seq (.ops [⟨some 83, none, .mov (.t 14)⟩,
  ⟨some 84, none, .mov (.t 15)⟩,
  ⟨some 85, none, .bin .lss (.t 83) (.t 84)⟩])
  (.cond (.t 85)
  (.skip)
  (.exit 4)))
  (c7_slices_symMergeCmpFunc_input_Key)
def c9_slices_symMergeCmpFunc_input_Key : C :=
 .seq (.block 7
  (.any 0 [.op 5 ⟨some 118, none, .mov (.t 0)⟩,
  .op 6 ⟨some 119, none, .mov (.t 17)⟩,
  .op 7 ⟨some 120, none, .bin .sub (.t 119) (.c (.int .i64 1))⟩,
  .op 8 ⟨some 121, none, .ia 2 (.t 118) (.t 120)⟩,
  .op 9 ⟨some 122, none, .ldn 2 (.t 121)⟩,
  .op 10 ⟨some 123, none, .mov (.t 0)⟩,
  .op 11 ⟨some 124, none, .mov (.t 17)⟩,
  .op 12 ⟨some 125, none, .ia 2 (.t 123) (.t 124)⟩,
  .op 13 ⟨some 126, none, .ldn 2 (.t 125)⟩,
  .op 0 ⟨some 113, none, .mov (.t 0)⟩,
  .op 1 ⟨some 114, none, .mov (.t 17)⟩,
  .op 14 ⟨some 127, none, .ia 2 (.t 113) (.t 114)⟩,
  .op 15 ⟨none, none, .stn 2 (.t 127) (.t 122)⟩,
  .op 2 ⟨some 115, none, .mov (.t 0)⟩,
  .op 3 ⟨some 116, none, .mov (.t 17)⟩,
  .op 4 ⟨some 117, none, .bin .sub (.t 116) (.c (.int .i64 1))⟩,
  .op 16 ⟨some 128, none, .ia 2 (.t 115) (.t 117)⟩,
  .op 17 ⟨none, none, .stn 2 (.t 128) (.t 126)⟩]))
  (.ops [⟨some 111, none, .mov (.t 17)⟩,
  ⟨some 112, none, .bin .sub (.t 111) (.c (.int .i64 1))⟩,
  ⟨some 17, none, .mov (.t 112)⟩])
def c10_slices_symMergeCmpFunc_input_Key : C :=
 .seq (.seq (.ops [⟨some 108, none, .mov (.t 17)⟩,
  ⟨some 109, none, .mov (.t 14)⟩,
  ⟨some 110, none, .bin .gtr (.t 108) (.t 109)⟩])
  (.cond (.t 110)
  (.skip)
  (.exit 6)))
  (c9_slices_symMergeCmpFunc_input_Key)
def c11_slices_symMergeCmpFunc_input_Key : C :=
 .seq (.ops [⟨some 81, none, .mov (.t 1)⟩,
  ⟨some 14, none, .mov (.t 81)⟩])
  (.seq (.ops [⟨some 82, none, .mov (.t 2)⟩,
  ⟨some 15, none, .mov (.t 82)⟩])
  (.seq (.block 4
  (.loop c8_slices_symMergeCmpFunc_input_Key))
  (.seq (.seq (.ops [⟨some 107, none, .mov (.t 2)⟩,
  ⟨some 17, none, .mov (.t 107)⟩])
  (.block 6
  (.loop c10_slices_symMergeCmpFunc_input_Key)))
  (.ret))))
def c12_slices_symMergeCmpFunc_input_Key : C :=
 .cond (.t 140)
  (.seq (.ops [⟨some 141, none, .mov (.t 19)⟩,
  ⟨some 142, none, .mov (.t 3)⟩,
  ⟨some 143, none, .bin .sub (.t 141) (.t 142)⟩,
  ⟨some 20, none, .mov (.t 143)⟩])
  (.ops [⟨some 144, none, .mov (.t 18)⟩,
  ⟨some 21, none, .mov (.t 144)⟩]))
  (.seq (.ops [⟨some 145, none, .mov (.t 1)⟩,
  ⟨some 20, none, .mov (.t 145)⟩])
  (.ops [⟨some 146, none, .mov (.t 2)⟩,
  ⟨some 21, none, .mov (.t 146)⟩]))
def c13_slices_symMergeCmpFunc_input_Key : C :=
 .seq (.any 0 [.op 1 ⟨some 159, none, .mov (.t 0)⟩,
  .op 2 ⟨some 160, none, .mov (.t 22)⟩,
  .op 3 ⟨some 161, none, .mov (.t 23)⟩,
  .op 4 ⟨some 162, none, .bin .sub (.t 160) (.t 161)⟩,
  .op 5 ⟨some 163, none, .ia 2 (.t 159) (.t 162)⟩,
  .op 6 ⟨some 164, none, .ldn 2 (.t 163)⟩,
  .op 7 ⟨some 165, none, .mov (.t 0)⟩,
  .op 8 ⟨some 166, none, .mov (.t 23)⟩,
  .op 9 ⟨some 167, none, .ia 2 (.t 165) (.t 166)⟩,
  .op 10 ⟨some 168, none, .ldn 2 (.t 167)⟩,
  .op 0 ⟨some 158, none, .mov (.t 4)⟩,
  .op 11 ⟨some 169, none, .callv (.t 158) [(.t 164), (.t 168)]⟩,
  .op 12 ⟨some 170, none, .bin .lss (.t 169) (.c (.int .i64 0))⟩,
  .op 13 ⟨some 171, none, .un .not (.t 170)⟩])
  (.cond (.t 171)
  (.ops [⟨some 172, none, .mov (.t 23)⟩,
  ⟨some 173, none, .bin .add (.t 172) (.c (.int .i64 1))⟩,
  ⟨some 20, none, .mov (.t 173)⟩])
  (.ops [⟨some 174, none, .mov (.t 23)⟩,
  ⟨some 21, none, .mov (.t 174)⟩]))
def c14_slices_symMergeCmpFunc_input_Key : C :=
 .block 9
  (.seq (.ops [⟨some 152, none, .mov (.t 20)⟩,
  ⟨some 153, none, .mov (.t 21)⟩,
  ⟨some 154, none, .bin .add (.t 152) (.t 153)⟩,
  ⟨some 155, none, .conv .u64 (.t 154)⟩,
  ⟨some 156, none, .bin .shr (.t 155) (.c (.int .u64 1))⟩,
  ⟨some 157, none, .conv .i64 (.t 156)⟩,
  ⟨some 23, none, .mov (.t 157)⟩])
  (c13_slices_symMergeCmpFunc_input_Key))
def c15_slices_symMergeCmpFunc_input_Key : C :=
 .seq (.seq (.ops [⟨some 149, none, .mov (.t 20)⟩,
  ⟨some 150, none, .mov (.t 21)⟩,
  ⟨some 151, none, .bin .lss (.t 149) (.t 150)⟩])
  (.cond (.t 151)
  (.skip)
  (.exit 8)))
  (c14_slices_symMergeCmpFunc_input_Key)
def c16_slices_symMergeCmpFunc_input_Key : C :=
 .seq (.ops [⟨some 206, none, .mov (.t 18)⟩,
  ⟨some 207, none, .mov (.t 24)⟩,
  ⟨some 208, none, .bin .lss (.t 206) (.t 207)⟩,
  ⟨some 209, none, .mov (.t 208)⟩,
  ⟨some 210, some (209, true), .mov (.t 24)⟩,
  ⟨some 211, some (209, true), .mov (.t 3)⟩,
  ⟨some 212, some (209, true), .bin .lss (.t 210) (.t 211)⟩,
  ⟨some 213, none, .pick (.t 209) (.t 212) (.c (.bool false))⟩])
  (.cond (.t 213)
  (.ops [⟨some 214, none, .mov (.t 0)⟩,
  ⟨some 215, none, .mov (.t 18)⟩,
  ⟨some 216, none, .mov (.t 24)⟩,
  ⟨some 217, none, .mov (.t 3)⟩,
  ⟨some 218, none, .mov (.t 4)⟩,
  ⟨some 219, none, .call n_slices_symMergeCmpFunc_input_Key [(.t 214), (.t 215), (.t 216), (.t 217), (.t 218)]⟩])
  (.skip))
def c17_slices_symMergeCmpFunc_input_Key : C :=
 .seq (.seq (.ops [⟨some 192, none, .mov (.t 1)⟩,
  ⟨some 193, none, .mov (.t 20)⟩,
  ⟨some 194, none, .bin .lss (.t 192) (.t 193)⟩,
  ⟨some 195, none, .mov (.t 194)⟩,
  ⟨some 196, some (195, true), .mov (.t 20)⟩,
  ⟨some 197, some (195, true), .mov (.t 18)⟩,
  ⟨some 198, some (195, true), .bin .lss (.t 196) (.t 197)⟩,
  ⟨some 199, none, .pick (.t 195) (.t 198) (.c (.bool false))⟩])
  (.cond (.t 199)
  (.ops [⟨some 200, none, .mov (.t 0)⟩,
  ⟨some 201, none, .mov (.t 1)⟩,
  ⟨some 202, none, .mov (.t 20)⟩,
  ⟨some 203, none, .mov (.t 18)⟩,
  ⟨some 204, none, .mov (.t 4)⟩,
  ⟨some 205, none, .call n_slices_symMergeCmpFunc_input_Key [(.t 200), (.t 201), (.t 202), (.t 203), (.t 204)]⟩])
  (.skip)))
  (c16_slices_symMergeCmpFunc_input_Key)
def c18_slices_symMergeCmpFunc_input_Key : C :=
 .seq (.seq (.ops [⟨some 178, none, .mov (.t 20)⟩,
  ⟨some 179, none, .mov (.t 2)⟩,
  ⟨some 180, none, .bin .lss (.t 178) (.t 179)⟩,
  ⟨some 181, none, .mov (.t 180)⟩,
  ⟨some 182, some (181, true), .mov (.t 2)⟩,
  ⟨some 183, some (181, true), .mov (.t 24)⟩,
  ⟨some 184, some (181, true), .bin .lss (.t 182) (.t 183)⟩,
  ⟨some 185, none, .pick (.t 181) (.t 184) (.c (.bool false))⟩])
  (.cond (.t 185)
  (.ops [⟨some 186, none, .mov (.t 0)⟩,
  ⟨some 187, none, .mov (.t 20)⟩,
  ⟨some 188, none, .mov (.t 2)⟩,
  ⟨some 189, none, .mov (.t 24)⟩,
  ⟨some 190, none, .mov (.t 4)⟩,
  ⟨some 191, none, .call n_slices_rotateCmpFunc_input_Key [(.t 186), (.t 187), (.t 188), (.t 189), (.t 190)]⟩])
  (.skip)))
  (c17_slices_symMergeCmpFunc_input_Key)
def c19_slices_symMergeCmpFunc_input_Key : C :=
 .seq (.ops [⟨some 147, none, .mov (.t 19)⟩,
  ⟨some 148, none, .bin .sub (.t 147) (.c (.int .i64 1))⟩,
  ⟨some 22, none, .mov (.t 148)⟩])
  (.seq (.block 8
  (.loop c15_slices_symMergeCmpFunc_input_Key))
  (.seq (.ops [⟨some 175, none, .mov (.t 19)⟩,
  ⟨some 176, none, .mov (.t 20)⟩,
  ⟨some 177, none, .bin .sub (.t 175) (.t 176)⟩,
  ⟨some 24, none, .mov (.t 177)⟩])
  (c18_slices_symMergeCmpFunc_input_Key)))
def c20_slices_symMergeCmpFunc_input_Key : C :=
 .seq (.ops [⟨some 135, none, .mov (.t 18)⟩,
  ⟨some 136, none, .mov (.t 2)⟩,
  ⟨some 137, none, .bin .add (.t 135) (.t 136)⟩,
  ⟨some 19, none, .mov (.t 137)⟩])
  (.seq (.ops [⟨some 20, none, .mov (.c (.int .i64 0))⟩,
  ⟨some 21, none, .mov (.c (.int .i64 0))⟩])
  (.seq (.seq (.ops [⟨some 138, none, .mov (.t 2)⟩,
  ⟨some 139, none, .mov (.t 18)⟩,
  ⟨some 140, none, .bin .gtr (.t 138) (.t 139)⟩])
  (c12_slices_symMergeCmpFunc_input_Key))
  (c19_slices_symMergeCmpFunc_input_Key)))
def c21_slices_symMergeCmpFunc_input_Key : C :=
 .seq (.ops [⟨some 129, none, .mov (.t 1)⟩,
  ⟨some 130, none, .mov (.t 3)⟩,
  ⟨some 131, none, .bin .add (.t 129) (.t 130)⟩,
  ⟨some 132, none, .conv .u64 (.t 131)⟩,
  ⟨some 133, none, .bin .shr (.t 132) (.c (.int .u64 1))⟩,
  ⟨some 134, none, .conv .i64 (.t 133)⟩,
  ⟨some 18, none, .mov (.t 134)⟩])
  (c20_slices_symMergeCmpFunc_input_Key)
def c_slices_symMergeCmpFunc_input_Key : C :=
 .seq (.seq (.ops [⟨some 25, none, .mov (.t 2)⟩,
  ⟨some 26, none, .mov (.t 1)⟩,
  ⟨some 27, none, .bin .sub (.t 25) (.t 26)⟩,
  ⟨some 28, none, .bin .eql (.t 27) (.c (.int .i64 1))⟩])
  (.cond (.t 28)
  (c5_slices_symMergeCmpFunc_input_Key)
  (.skip)))
  (.seq (.seq (.ops [⟨some 77, none, .mov (.t 3)⟩,
  ⟨some 78, none, .mov (.t 2)⟩,
  ⟨some 79, none, .bin .sub (.t 77) (.t 78)⟩,
  ⟨some 80, none, .bin .eql (.t 79) (.c (.int .i64 1))⟩])
  (.cond (.t 80)
  (c11_slices_symMergeCmpFunc_input_Key)
  (.skip)))
  (c21_slices_symMergeCmpFunc_input_Key))
def f_slices_symMergeCmpFunc_input_Key : F := ⟨c_slices_symMergeCmpFunc_input_Key, [], some []⟩
theorem h_slices_symMergeCmpFunc_input_Key : compF Try.prog (compAny Try.prog) n_slices_symMergeCmpFunc_input_Key = some (f_slices_symMergeCmpFunc_input_Key.body, f_slices_symMergeCmpFunc_input_Key.res) := by kernel_rfl
def c0_slices_rotateCmpFunc_input_Key : C :=
 .seq (.ops [⟨some 24, none, .mov (.t 0)⟩,
  ⟨some 25, none, .mov (.t 2)⟩,
  ⟨some 26, none, .mov (.t 10)⟩,
  ⟨some 27, none, .bin .sub (.t 25) (.t 26)⟩,
  ⟨some 28, none, .mov (.t 2)⟩,
  ⟨some 29, none, .mov (.t 11)⟩,
  ⟨some 30, none, .mov (.t 4)⟩,
  ⟨some 31, none, .call n_slices_swapRangeCmpFunc_input_Key [(.t 24), (.t 27), (.t 28), (.t 29), (.t 30)]⟩])
  (.ops [⟨some 32, none, .mov (.t 10)⟩,
  ⟨some 33, none, .mov (.t 11)⟩,
  ⟨some 34, none, .bin .sub (.t 32) (.t 33)⟩,
  ⟨some 10, none, .mov (.t 34)⟩])
def c1_slices_rotateCmpFunc_input_Key : C :=
 .seq (.ops [⟨some 35, none, .mov (.t 0)⟩,
  ⟨some 36, none, .mov (.t 2)⟩,
  ⟨some 37, none, .mov (.t 10)⟩,
  ⟨some 38, none, .bin .sub (.t 36) (.t 37)⟩,
  ⟨some 39, none, .mov (.t 2)⟩,
  ⟨some 40, none, .mov (.t 11)⟩,
  ⟨some 41, none, .bin .add (.t 39) (.t 40)⟩,
  ⟨some 42, none, .mov (.t 10)⟩,
  ⟨some 43, none, .bin .sub (.t 41) (.t 42)⟩,
  ⟨some 44, none, .mov (.t 10)⟩,
  ⟨some 45, none, .mov (.t 4)⟩,
  ⟨some 46, none, .call n_slices_swapRangeCmpFunc_input_Key [(.t 35), (.t 38), (.t 43), (.t 44), (.t 45)]⟩])
  (.ops [⟨some 47, none, .mov (.t 11)⟩,
  ⟨some 48, none, .mov (.t 10)⟩,
  ⟨some 49, none, .bin .sub (.t 47) (.t 48)⟩,
  ⟨some 11, none, .mov (.t 49)⟩])
def c2_slices_rotateCmpFunc_input_Key : C :=
 .seq (.seq (.ops [⟨some 18, none, .mov (.t 10)⟩,
  ⟨some 19, none, .mov (.t 11)⟩,
  ⟨some 20, none, .bin .neq (.t 18) (.t 19)⟩])
  (.cond (.t 20)
  (.skip)
  (.exit 0)))
  (.block 1
  (.seq (.ops [⟨some 21, none, .mov (.t 10)⟩,
  ⟨some 22, none, .mov (.t 11)⟩,
  ⟨some 23, none, .bin .gtr (.t 21) (.t 22)⟩])
  (.cond (.t 23)
  (c0_slices_rotateCmpFunc_input_Key)
  (c1_slices_rotateCmpFunc_input_Key))))
def c3_slices_rotateCmpFunc_input_Key : C :=
 .ops [⟨some 50, none, .mov (.t 0)⟩,
  ⟨some 51, none, .mov (.t 2)⟩,
  ⟨some 52, none, .mov (.t 10)⟩,
  ⟨some 53, none, .bin .sub (.t 51) (.t 52)⟩,
  ⟨some 54, none, .mov (.t 2)⟩,
  ⟨some 55, none, .mov (.t 10)⟩,
  ⟨some 56, none, .mov (.t 4)⟩,
  ⟨some 57, none, .call n_slices_swapRangeCmpFunc_input_Key [(.t 50), (.t 53), (.t 54), (.t 55), (.t 56)]⟩]
def c_slices_rotateCmpFunc_input_Key : C :=
 .seq (.ops [⟨some 12, none, .mov (.t 2)⟩,
  ⟨some 13, none, .mov (.t 1)⟩,
  ⟨some 14, none, .bin .sub (.t 12) (.t 13)⟩,
  ⟨some 10, none, .mov (.t 14)⟩])
  (.seq (.ops [⟨some 15, none, .mov (.t 3)⟩,
  ⟨some 16, none, .mov (.t 2)⟩,
  ⟨some 17, none, .bin .sub (.t 15) (.t 16)⟩,
  ⟨some 11, none, .mov (.t 17)⟩])
  (.seq (.block 0
  (.loop c2_slices_rotateCmpFunc_input_Key))
  (c3_slices_rotateCmpFunc_input_Key)))
def f_slices_rotateCmpFunc_input_Key : F := ⟨c_slices_rotateCmpFunc_input_Key, [], some []⟩
theorem h_slices_rotateCmpFunc_input_Key : compF Try.prog (compAny Try.prog) n_slices_rotateCmpFunc_input_Key = some (f_slices_rotateCmpFunc_input_Key.body, f_slices_rotateCmpFunc_input_Key.res) := by kernel_rfl
def c0_slices_swapRangeCmpFunc_input_Key : C :=
 .seq (.block 1
  (.any 0 [.op 8 ⟨some 24, none, .mov (.t 0)⟩,
  .op 9 ⟨some 25, none, .mov (.t 2)⟩,
  .op 10 ⟨some 26, none, .mov (.t 10)⟩,
  .op 11 ⟨some 27, none, .bin .add (.t 25) (.t 26)⟩,
  .op 12 ⟨some 28, none, .ia 2 (.t 24) (.t 27)⟩,
  .op 13 ⟨some 29, none, .ldn 2 (.t 28)⟩,
  .op 14 ⟨some 30, none, .mov (.t 0)⟩,
  .op 15 ⟨some 31, none, .mov (.t 1)⟩,
  .op 16 ⟨some 32, none, .mov (.t 10)⟩,
  .op 17 ⟨some 33, none, .bin .add (.t 31) (.t 32)⟩,
  .op 18 ⟨some 34, none, .ia 2 (.t 30) (.t 33)⟩,
  .op 19 ⟨some 35, none, .ldn 2 (.t 34)⟩,
  .op 0 ⟨some 16, none, .mov (.t 0)⟩,
  .op 1 ⟨some 17, none, .mov (.t 1)⟩,
  .op 2 ⟨some 18, none, .mov (.t 10)⟩,
  .op 3 ⟨some 19, none, .bin .add (.t 17) (.t 18)⟩,
  .op 20 ⟨some 36, none, .ia 2 (.t 16) (.t 19)⟩,
  .op 21 ⟨none, none, .stn 2 (.t 36) (.t 29)⟩,
  .op 4 ⟨some 20, none, .mov (.t 0)⟩,
  .op 5 ⟨some 21, none, .mov (.t 2)⟩,
  .op 6 ⟨some 22, none, .mov (.t 10)⟩,
  .op 7 ⟨some 23, none, .bin .add (.t 21) (.t 22)⟩,
  .op 22 ⟨some 37, none, .ia 2 (.t 20) (.t 23)⟩,
  .op 23 ⟨none, none, .stn 2 (.t 37) (.t 35)⟩]))
  (.ops [⟨some 14, none, .mov (.t 10)⟩,
  ⟨some 15, none, .bin .add (.t 14) (.c (.int .i64 1))⟩,
  ⟨some 10, none, .mov (.t 15)⟩])
def c1_slices_swapRangeCmpFunc_input_Key : C :=
 .seq (.seq (.ops [⟨some 11, none, .mov (.t 10)⟩,
  ⟨some 12, none, .mov (.t 3)⟩,
  ⟨some 13, none, .bin .lss (.t 11) (.t 12)⟩])
  (.cond (.t 13)
  (.skip)
  (.exit 0)))
  (c0_slices_swapRangeCmpFunc_input_Key)
def c_slices_swapRangeCmpFunc_input_Key : C :=
 .seq (.ops [⟨some 10, none, .mov (.c (.int .i64 0))⟩])
  (.block 0
  (.loop c1_slices_swapRangeCmpFunc_input_Key))
def f_slices_swapRangeCmpFunc_input_Key : F := ⟨c_slices_swapRangeCmpFunc_input_Key, [], some []⟩
theorem h_slices_swapRangeCmpFunc_input_Key : compF Try.prog (compAny Try.prog) n_slices_swapRangeCmpFunc_input_Key = some (f_slices_swapRangeCmpFunc_input_Key.body, f_slices_swapRangeCmpFunc_input_Key.res) := by kernel_rfl
end Go.Proofs.Ytppgoobhlcdbbaa.Cd

set_option maxRecDepth 100000
set_option linter.defProp false
namespace Go.Proofs.Ytppgoobhlcdbbaa.Cd
open Go Go.Dx
end Go.Proofs.Ytppgoobhlcdbbaa.Cd

/- The code of the functions that are reached, as the interpreter reads it. -/
set_option maxRecDepth 100000
set_option linter.defProp false
namespace Go.Proofs.Ytppgoobhlcdbbaa.Cd
open Go Go.Dx
def T : Nat → Option Dx.Fn := ins n_pianolalaw24_InputPlays (.code f_pianolalaw24_InputPlays) <| ins n_input_New (.code f_input_New) <| ins n_input_Plan_Left (.code f_input_Plan_Left) <| ins n_pianolalaw24_known (.code f_pianolalaw24_known) <| ins n_pianolabook_Roomy_input_Key (.code f_pianolabook_Roomy_input_Key) <| ins n_pianolalaw24_sorted (.code f_pianolalaw24_sorted) <| ins n_input_Plan_Next (.code f_input_Plan_Next) <| ins n_input_Plan_Take (.code f_input_Plan_Take) <| ins n_pianolabook_Intact_input_Key (.code f_pianolabook_Intact_input_Key) <| ins n_slices_Clone_input_Key_input_Key (.code f_slices_Clone_input_Key_input_Key) <| ins n_slices_SortStableFunc_input_Key_input_Key (.code f_slices_SortStableFunc_input_Key_input_Key) <| ins n_input_New_1 (.code f_input_New_1) <| ins n_cmp_Compare_int64 (.code f_cmp_Compare_int64) <| ins n_pianolabook_Same_input_Key (.code f_pianolabook_Same_input_Key) <| ins n_slices_stableCmpFunc_input_Key (.code f_slices_stableCmpFunc_input_Key) <| ins n_cmp_isNaN_int64 (.code f_cmp_isNaN_int64) <| ins n_slices_insertionSortCmpFunc_input_Key (.code f_slices_insertionSortCmpFunc_input_Key) <| ins n_slices_symMergeCmpFunc_input_Key (.code f_slices_symMergeCmpFunc_input_Key) <| ins n_slices_rotateCmpFunc_input_Key (.code f_slices_rotateCmpFunc_input_Key) <| ins n_slices_swapRangeCmpFunc_input_Key (.code f_slices_swapRangeCmpFunc_input_Key) <| fun _ => none
theorem T_pianolalaw24_InputPlays : T n_pianolalaw24_InputPlays = some (.code f_pianolalaw24_InputPlays) := rfl
theorem T_input_New : T n_input_New = some (.code f_input_New) := rfl
theorem T_input_Plan_Left : T n_input_Plan_Left = some (.code f_input_Plan_Left) := rfl
theorem T_pianolalaw24_known : T n_pianolalaw24_known = some (.code f_pianolalaw24_known) := rfl
theorem T_pianolabook_Roomy_input_Key : T n_pianolabook_Roomy_input_Key = some (.code f_pianolabook_Roomy_input_Key) := rfl
theorem T_pianolalaw24_sorted : T n_pianolalaw24_sorted = some (.code f_pianolalaw24_sorted) := rfl
theorem T_input_Plan_Next : T n_input_Plan_Next = some (.code f_input_Plan_Next) := rfl
theorem T_input_Plan_Take : T n_input_Plan_Take = some (.code f_input_Plan_Take) := rfl
theorem T_pianolabook_Intact_input_Key : T n_pianolabook_Intact_input_Key = some (.code f_pianolabook_Intact_input_Key) := rfl
theorem T_slices_Clone_input_Key_input_Key : T n_slices_Clone_input_Key_input_Key = some (.code f_slices_Clone_input_Key_input_Key) := rfl
theorem T_slices_SortStableFunc_input_Key_input_Key : T n_slices_SortStableFunc_input_Key_input_Key = some (.code f_slices_SortStableFunc_input_Key_input_Key) := rfl
theorem T_input_New_1 : T n_input_New_1 = some (.code f_input_New_1) := rfl
theorem T_cmp_Compare_int64 : T n_cmp_Compare_int64 = some (.code f_cmp_Compare_int64) := rfl
theorem T_pianolabook_Same_input_Key : T n_pianolabook_Same_input_Key = some (.code f_pianolabook_Same_input_Key) := rfl
theorem T_slices_stableCmpFunc_input_Key : T n_slices_stableCmpFunc_input_Key = some (.code f_slices_stableCmpFunc_input_Key) := rfl
theorem T_cmp_isNaN_int64 : T n_cmp_isNaN_int64 = some (.code f_cmp_isNaN_int64) := rfl
theorem T_slices_insertionSortCmpFunc_input_Key : T n_slices_insertionSortCmpFunc_input_Key = some (.code f_slices_insertionSortCmpFunc_input_Key) := rfl
theorem T_slices_symMergeCmpFunc_input_Key : T n_slices_symMergeCmpFunc_input_Key = some (.code f_slices_symMergeCmpFunc_input_Key) := rfl
theorem T_slices_rotateCmpFunc_input_Key : T n_slices_rotateCmpFunc_input_Key = some (.code f_slices_rotateCmpFunc_input_Key) := rfl
theorem T_slices_swapRangeCmpFunc_input_Key : T n_slices_swapRangeCmpFunc_input_Key = some (.code f_slices_swapRangeCmpFunc_input_Key) := rfl
section
variable {h : Hp} {q : Value → Hp → Prop} {l : List Value}
@[simp] def g0_pianolalaw24_InputPlays := G_unf c0_pianolalaw24_InputPlays.eq_1
@[simp] def g1_pianolalaw24_InputPlays := G_unf c1_pianolalaw24_InputPlays.eq_1
@[simp] def g2_pianolalaw24_InputPlays := G_unf c2_pianolalaw24_InputPlays.eq_1
@[simp] def g3_pianolalaw24_InputPlays := G_unf c3_pianolalaw24_InputPlays.eq_1
@[simp] def g4_pianolalaw24_InputPlays := G_unf c4_pianolalaw24_InputPlays.eq_1
@[simp] def g5_pianolalaw24_InputPlays := G_unf c5_pianolalaw24_InputPlays.eq_1
@[simp] def g6_pianolalaw24_InputPlays := G_unf c6_pianolalaw24_InputPlays.eq_1
@[simp] def g7_pianolalaw24_InputPlays := G_unf c7_pianolalaw24_InputPlays.eq_1
@[simp] def g8_pianolalaw24_InputPlays := G_unf c8_pianolalaw24_InputPlays.eq_1
@[simp] def g9_pianolalaw24_InputPlays := G_unf c9_pianolalaw24_InputPlays.eq_1
@[simp] def g10_pianolalaw24_InputPlays := G_unf c10_pianolalaw24_InputPlays.eq_1
@[simp] def g_pianolalaw24_InputPlays := G_unf c_pianolalaw24_InputPlays.eq_1
theorem w_pianolalaw24_InputPlays : WC T n_pianolalaw24_InputPlays l h q ↔ G T (fin [.t 4] (some []) h.next q) c_pianolalaw24_InputPlays [] (envOf l) h := WC_G T_pianolalaw24_InputPlays
@[simp] def g0_input_New := G_unf c0_input_New.eq_1
@[simp] def g_input_New := G_unf c_input_New.eq_1
theorem w_input_New : WC T n_input_New l h q ↔ G T (fin [.t 2] (some []) h.next q) c_input_New [] (envOf l) h := WC_G T_input_New
@[simp] def g_input_Plan_Left := G_unf c_input_Plan_Left.eq_1
theorem w_input_Plan_Left : WC T n_input_Plan_Left l h q ↔ G T (fin [.t 2] (some []) h.next q) c_input_Plan_Left [] (envOf l) h := WC_G T_input_Plan_Left
@[simp] def g0_pianolalaw24_known := G_unf c0_pianolalaw24_known.eq_1
@[simp] def g1_pianolalaw24_known := G_unf c1_pianolalaw24_known.eq_1
@[simp] def g2_pianolalaw24_known := G_unf c2_pianolalaw24_known.eq_1
@[simp] def g3_pianolalaw24_known := G_unf c3_pianolalaw24_known.eq_1
@[simp] def g_pianolalaw24_known := G_unf c_pianolalaw24_known.eq_1
theorem w_pianolalaw24_known : WC T n_pianolalaw24_known l h q ↔ G T (fin [.t 0] (some []) h.next q) c_pianolalaw24_known [] (envOf l) h := WC_G T_pianolalaw24_known
@[simp] def g0_pianolabook_Roomy_input_Key := G_unf c0_pianolabook_Roomy_input_Key.eq_1
@[simp] def g1_pianolabook_Roomy_input_Key := G_unf c1_pianolabook_Roomy_input_Key.eq_1
@[simp] def g2_pianolabook_Roomy_input_Key := G_unf c2_pianolabook_Roomy_input_Key.eq_1
@[simp] def g_pianolabook_Roomy_input_Key := G_unf c_pianolabook_Roomy_input_Key.eq_1
theorem w_pianolabook_Roomy_input_Key : WC T n_pianolabook_Roomy_input_Key l h q ↔ G T (fin [.t 4] (some []) h.next q) c_pianolabook_Roomy_input_Key [] (envOf l) h := WC_G T_pianolabook_Roomy_input_Key
@[simp] def g0_pianolalaw24_sorted := G_unf c0_pianolalaw24_sorted.eq_1
@[simp] def g1_pianolalaw24_sorted := G_unf c1_pianolalaw24_sorted.eq_1
@[simp] def g2_pianolalaw24_sorted := G_unf c2_pianolalaw24_sorted.eq_1
@[simp] def g_pianolalaw24_sorted := G_unf c_pianolalaw24_sorted.eq_1
theorem w_pianolalaw24_sorted : WC T n_pianolalaw24_sorted l h q ↔ G T (fin [.t 2] (some []) h.next q) c_pianolalaw24_sorted [] (envOf l) h := WC_G T_pianolalaw24_sorted
@[simp] def g0_input_Plan_Next := G_unf c0_input_Plan_Next.eq_1
@[simp] def g1_input_Plan_Next := G_unf c1_input_Plan_Next.eq_1
@[simp] def g_input_Plan_Next := G_unf c_input_Plan_Next.eq_1
theorem w_input_Plan_Next : WC T n_input_Plan_Next l h q ↔ G T (fin [.t 2, .t 3] (some []) h.next q) c_input_Plan_Next [] (envOf l) h := WC_G T_input_Plan_Next
@[simp] def g0_input_Plan_Take := G_unf c0_input_Plan_Take.eq_1
@[simp] def g1_input_Plan_Take := G_unf c1_input_Plan_Take.eq_1
@[simp] def g2_input_Plan_Take := G_unf c2_input_Plan_Take.eq_1
@[simp] def g_input_Plan_Take := G_unf c_input_Plan_Take.eq_1
theorem w_input_Plan_Take : WC T n_input_Plan_Take l h q ↔ G T (fin [.t 4] (some []) h.next q) c_input_Plan_Take [] (envOf l) h := WC_G T_input_Plan_Take
@[simp] def g0_pianolabook_Intact_input_Key := G_unf c0_pianolabook_Intact_input_Key.eq_1
@[simp] def g1_pianolabook_Intact_input_Key := G_unf c1_pianolabook_Intact_input_Key.eq_1
@[simp] def g2_pianolabook_Intact_input_Key := G_unf c2_pianolabook_Intact_input_Key.eq_1
@[simp] def g_pianolabook_Intact_input_Key := G_unf c_pianolabook_Intact_input_Key.eq_1
theorem w_pianolabook_Intact_input_Key : WC T n_pianolabook_Intact_input_Key l h q ↔ G T (fin [.t 6] (some []) h.next q) c_pianolabook_Intact_input_Key [] (envOf l) h := WC_G T_pianolabook_Intact_input_Key
@[simp] def g0_slices_Clone_input_Key_input_Key := G_unf c0_slices_Clone_input_Key_input_Key.eq_1
@[simp] def g_slices_Clone_input_Key_input_Key := G_unf c_slices_Clone_input_Key_input_Key.eq_1
theorem w_slices_Clone_input_Key_input_Key : WC T n_slices_Clone_input_Key_input_Key l h q ↔ G T (fin [.t 2] (some []) h.next q) c_slices_Clone_input_Key_input_Key [] (envOf l) h := WC_G T_slices_Clone_input_Key_input_Key
@[simp] def g_slices_SortStableFunc_input_Key_input_Key := G_unf c_slices_SortStableFunc_input_Key_input_Key.eq_1
theorem w_slices_SortStableFunc_input_Key_input_Key : WC T n_slices_SortStableFunc_input_Key_input_Key l h q ↔ G T (fin [] (some []) h.next q) c_slices_SortStableFunc_input_Key_input_Key [] (envOf l) h := WC_G T_slices_SortStableFunc_input_Key_input_Key
@[simp] def g_input_New_1 := G_unf c_input_New_1.eq_1
theorem w_input_New_1 : WC T n_input_New_1 l h q ↔ G T (fin [.t 4] (some []) h.next q) c_input_New_1 [] (envOf l) h := WC_G T_input_New_1
@[simp] def g0_cmp_Compare_int64 := G_unf c0_cmp_Compare_int64.eq_1
@[simp] def g1_cmp_Compare_int64 := G_unf c1_cmp_Compare_int64.eq_1
@[simp] def g_cmp_Compare_int64 := G_unf c_cmp_Compare_int64.eq_1
theorem w_cmp_Compare_int64 : WC T n_cmp_Compare_int64 l h q ↔ G T (fin [.t 4] (some []) h.next q) c_cmp_Compare_int64 [] (envOf l) h := WC_G T_cmp_Compare_int64
@[simp] def g0_pianolabook_Same_input_Key := G_unf c0_pianolabook_Same_input_Key.eq_1
@[simp] def g1_pianolabook_Same_input_Key := G_unf c1_pianolabook_Same_input_Key.eq_1
@[simp] def g2_pianolabook_Same_input_Key := G_unf c2_pianolabook_Same_input_Key.eq_1
@[simp] def g_pianolabook_Same_input_Key := G_unf c_pianolabook_Same_input_Key.eq_1
theorem w_pianolabook_Same_input_Key : WC T n_pianolabook_Same_input_Key l h q ↔ G T (fin [.t 4] (some []) h.next q) c_pianolabook_Same_input_Key [] (envOf l) h := WC_G T_pianolabook_Same_input_Key
@[simp] def g0_slices_stableCmpFunc_input_Key := G_unf c0_slices_stableCmpFunc_input_Key.eq_1
@[simp] def g1_slices_stableCmpFunc_input_Key := G_unf c1_slices_stableCmpFunc_input_Key.eq_1
@[simp] def g2_slices_stableCmpFunc_input_Key := G_unf c2_slices_stableCmpFunc_input_Key.eq_1
@[simp] def g3_slices_stableCmpFunc_input_Key := G_unf c3_slices_stableCmpFunc_input_Key.eq_1
@[simp] def g4_slices_stableCmpFunc_input_Key := G_unf c4_slices_stableCmpFunc_input_Key.eq_1
@[simp] def g5_slices_stableCmpFunc_input_Key := G_unf c5_slices_stableCmpFunc_input_Key.eq_1
@[simp] def g6_slices_stableCmpFunc_input_Key := G_unf c6_slices_stableCmpFunc_input_Key.eq_1
@[simp] def g7_slices_stableCmpFunc_input_Key := G_unf c7_slices_stableCmpFunc_input_Key.eq_1
@[simp] def g_slices_stableCmpFunc_input_Key := G_unf c_slices_stableCmpFunc_input_Key.eq_1
theorem w_slices_stableCmpFunc_input_Key : WC T n_slices_stableCmpFunc_input_Key l h q ↔ G T (fin [] (some []) h.next q) c_slices_stableCmpFunc_input_Key [] (envOf l) h := WC_G T_slices_stableCmpFunc_input_Key
@[simp] def g_cmp_isNaN_int64 := G_unf c_cmp_isNaN_int64.eq_1
theorem w_cmp_isNaN_int64 : WC T n_cmp_isNaN_int64 l h q ↔ G T (fin [.t 2] (some []) h.next q) c_cmp_isNaN_int64 [] (envOf l) h := WC_G T_cmp_isNaN_int64
@[simp] def g0_slices_insertionSortCmpFunc_input_Key := G_unf c0_slices_insertionSortCmpFunc_input_Key.eq_1
@[simp] def g1_slices_insertionSortCmpFunc_input_Key := G_unf c1_slices_insertionSortCmpFunc_input_Key.eq_1
@[simp] def g2_slices_insertionSortCmpFunc_input_Key := G_unf c2_slices_insertionSortCmpFunc_input_Key.eq_1
@[simp] def g_slices_insertionSortCmpFunc_input_Key := G_unf c_slices_insertionSortCmpFunc_input_Key.eq_1
theorem w_slices_insertionSortCmpFunc_input_Key : WC T n_slices_insertionSortCmpFunc_input_Key l h q ↔ G T (fin [] (some []) h.next q) c_slices_insertionSortCmpFunc_input_Key [] (envOf l) h := WC_G T_slices_insertionSortCmpFunc_input_Key
@[simp] def g0_slices_symMergeCmpFunc_input_Key := G_unf c0_slices_symMergeCmpFunc_input_Key.eq_1
@[simp] def g1_slices_symMergeCmpFunc_input_Key := G_unf c1_slices_symMergeCmpFunc_input_Key.eq_1
@[simp] def g2_slices_symMergeCmpFunc_input_Key := G_unf c2_slices_symMergeCmpFunc_input_Key.eq_1
@[simp] def g3_slices_symMergeCmpFunc_input_Key := G_unf c3_slices_symMergeCmpFunc_input_Key.eq_1
@[simp] def g4_slices_symMergeCmpFunc_input_Key := G_unf c4_slices_symMergeCmpFunc_input_Key.eq_1
@[simp] def g5_slices_symMergeCmpFunc_input_Key := G_unf c5_slices_symMergeCmpFunc_input_Key.eq_1
@[simp] def g6_slices_symMergeCmpFunc_input_Key := G_unf c6_slices_symMergeCmpFunc_input_Key.eq_1
@[simp] def g7_slices_symMergeCmpFunc_input_Key := G_unf c7_slices_symMergeCmpFunc_input_Key.eq_1
@[simp] def g8_slices_symMergeCmpFunc_input_Key := G_unf c8_slices_symMergeCmpFunc_input_Key.eq_1
@[simp] def g9_slices_symMergeCmpFunc_input_Key := G_unf c9_slices_symMergeCmpFunc_input_Key.eq_1
@[simp] def g10_slices_symMergeCmpFunc_input_Key := G_unf c10_slices_symMergeCmpFunc_input_Key.eq_1
@[simp] def g11_slices_symMergeCmpFunc_input_Key := G_unf c11_slices_symMergeCmpFunc_input_Key.eq_1
@[simp] def g12_slices_symMergeCmpFunc_input_Key := G_unf c12_slices_symMergeCmpFunc_input_Key.eq_1
@[simp] def g13_slices_symMergeCmpFunc_input_Key := G_unf c13_slices_symMergeCmpFunc_input_Key.eq_1
@[simp] def g14_slices_symMergeCmpFunc_input_Key := G_unf c14_slices_symMergeCmpFunc_input_Key.eq_1
@[simp] def g15_slices_symMergeCmpFunc_input_Key := G_unf c15_slices_symMergeCmpFunc_input_Key.eq_1
@[simp] def g16_slices_symMergeCmpFunc_input_Key := G_unf c16_slices_symMergeCmpFunc_input_Key.eq_1
@[simp] def g17_slices_symMergeCmpFunc_input_Key := G_unf c17_slices_symMergeCmpFunc_input_Key.eq_1
@[simp] def g18_slices_symMergeCmpFunc_input_Key := G_unf c18_slices_symMergeCmpFunc_input_Key.eq_1
@[simp] def g19_slices_symMergeCmpFunc_input_Key := G_unf c19_slices_symMergeCmpFunc_input_Key.eq_1
@[simp] def g20_slices_symMergeCmpFunc_input_Key := G_unf c20_slices_symMergeCmpFunc_input_Key.eq_1
@[simp] def g21_slices_symMergeCmpFunc_input_Key := G_unf c21_slices_symMergeCmpFunc_input_Key.eq_1
@[simp] def g_slices_symMergeCmpFunc_input_Key := G_unf c_slices_symMergeCmpFunc_input_Key.eq_1
theorem w_slices_symMergeCmpFunc_input_Key : WC T n_slices_symMergeCmpFunc_input_Key l h q ↔ G T (fin [] (some []) h.next q) c_slices_symMergeCmpFunc_input_Key [] (envOf l) h := WC_G T_slices_symMergeCmpFunc_input_Key
@[simp] def g0_slices_rotateCmpFunc_input_Key := G_unf c0_slices_rotateCmpFunc_input_Key.eq_1
@[simp] def g1_slices_rotateCmpFunc_input_Key := G_unf c1_slices_rotateCmpFunc_input_Key.eq_1
@[simp] def g2_slices_rotateCmpFunc_input_Key := G_unf c2_slices_rotateCmpFunc_input_Key.eq_1
@[simp] def g3_slices_rotateCmpFunc_input_Key := G_unf c3_slices_rotateCmpFunc_input_Key.eq_1
@[simp] def g_slices_rotateCmpFunc_input_Key := G_unf c_slices_rotateCmpFunc_input_Key.eq_1
theorem w_slices_rotateCmpFunc_input_Key : WC T n_slices_rotateCmpFunc_input_Key l h q ↔ G T (fin [] (some []) h.next q) c_slices_rotateCmpFunc_input_Key [] (envOf l) h := WC_G T_slices_rotateCmpFunc_input_Key
@[simp] def g0_slices_swapRangeCmpFunc_input_Key := G_unf c0_slices_swapRangeCmpFunc_input_Key.eq_1
@[simp] def g1_slices_swapRangeCmpFunc_input_Key := G_unf c1_slices_swapRangeCmpFunc_input_Key.eq_1
@[simp] def g_slices_swapRangeCmpFunc_input_Key := G_unf c_slices_swapRangeCmpFunc_input_Key.eq_1
theorem w_slices_swapRangeCmpFunc_input_Key : WC T n_slices_swapRangeCmpFunc_input_Key l h q ↔ G T (fin [] (some []) h.next q) c_slices_swapRangeCmpFunc_input_Key [] (envOf l) h := WC_G T_slices_swapRangeCmpFunc_input_Key
end
theorem tab : TabOK Try.prog (compAny Try.prog) T :=
  tab_ins h_pianolalaw24_InputPlays <|
  tab_ins h_input_New <|
  tab_ins h_input_Plan_Left <|
  tab_ins h_pianolalaw24_known <|
  tab_ins h_pianolabook_Roomy_input_Key <|
  tab_ins h_pianolalaw24_sorted <|
  tab_ins h_input_Plan_Next <|
  tab_ins h_input_Plan_Take <|
  tab_ins h_pianolabook_Intact_input_Key <|
  tab_ins h_slices_Clone_input_Key_input_Key <|
  tab_ins h_slices_SortStableFunc_input_Key_input_Key <|
  tab_ins h_input_New_1 <|
  tab_ins h_cmp_Compare_int64 <|
  tab_ins h_pianolabook_Same_input_Key <|
  tab_ins h_slices_stableCmpFunc_input_Key <|
  tab_ins h_cmp_isNaN_int64 <|
  tab_ins h_slices_insertionSortCmpFunc_input_Key <|
  tab_ins h_slices_symMergeCmpFunc_input_Key <|
  tab_ins h_slices_rotateCmpFunc_input_Key <|
  tab_ins h_slices_swapRangeCmpFunc_input_Key <|
  tab_none
end Go.Proofs.Ytppgoobhlcdbbaa.Cd
