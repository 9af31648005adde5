/- Texts of one kind, one behind the other. -/
import Derived.Test.YtpdfdemoflofhaaGreatProg
import Derived.KernelRfl
import Derived.Test.YtpdfdemoflofhaaGreatMb0
set_option maxRecDepth 100000
set_option linter.defProp false
namespace Go.Proofs.YtpdfdemoflofhaaGreat.Cd
open Go Go.Dx
def n_pianolalaw15_BusNumbers : Nat := 3
def n_bus_New : Nat := 5
def n_pianolaref15_New : Nat := 6
def n_bus_Bus_Load : Nat := 7
def n_pianolaref15_Bus_Load : Nat := 8
def n_bus_Bus_Store : Nat := 9
def n_pianolaref15_Bus_Store : Nat := 10
def n_pianolalaw15_same : Nat := 11
def n_bus_Bus_Fire : Nat := 12
def n_pianolaref15_Bus_Fire : Nat := 13
def n_pianolalaw15_known : Nat := 14
def n_ram_New : Nat := 16
def n_wheel_New : Nat := 17
def n_ram_Ram_Put : Nat := 18
def n_ram_Ram_Size : Nat := 19
def n_lines_New : Nat := 20
def n_timer_New : Nat := 21
def n_uart_New : Nat := 22
def n_dma_New : Nat := 23
def n_disk_New : Nat := 24
def n_pianolaref2_New : Nat := 25
def n_ram_Ram_Load : Nat := 26
def n_bus_window : Nat := 27
def n_bus_Bus_read : Nat := 28
def n_bus_Bus_gather : Nat := 29
def n_pianolaref2_Ram_Load : Nat := 30
def n_pianolaref15_where : Nat := 31
def n_pianolaref15_Bus_Word : Nat := 32
def n_pianolaref15_Bus_gather : Nat := 33
def n_ram_Ram_Store : Nat := 34
def n_bus_Bus_write : Nat := 35
def n_pianolaref2_Ram_Store : Nat := 36
def n_pianolaref15_Bus_Set : Nat := 37
def n_bus_Bus_Next : Nat := 38
def n_pianolaref15_Bus_Next : Nat := 39
def n_bus_Bus_Raised : Nat := 40
def n_pianolaref15_Bus_Raised : Nat := 41
def n_pianolabook_Same_api_Event : Nat := 42
def n_bus_Bus_Events : Nat := 43
def n_bus_Bus_Out : Nat := 44
def n_bus_Bus_Disk : Nat := 45
def n_wheel_Wheel_Take : Nat := 46
def n_bus_Bus_fire : Nat := 47
def n_pianolaref9_Wheel_Take : Nat := 48
def n_pianolaref15_Bus_B1 : Nat := 49
def n_bus_Bus_Ram : Nat := 50
def n_pianolabook_Within : Nat := 51
def n_ram_Ram_Bytes : Nat := 54
def n_ram_Ram_there : Nat := 55
def n_ram_Ram_touch : Nat := 56
def n_ram_Ram_even : Nat := 57
def n_lines_Lines_Read : Nat := 58
def n_timer_Timer_Read : Nat := 59
def n_uart_Uart_Read : Nat := 60
def n_dma_Dma_Read : Nat := 61
def n_disk_Disk_Read : Nat := 62
def n_lines_Lines_Set : Nat := 63
def n_bus_Bus_line : Nat := 64
def n_pianolaref2_Ram_In : Nat := 65
def n_pianolaref15_bit : Nat := 66
def n_pianolaref15_Bus_Line : Nat := 67
def n_lines_Lines_Write : Nat := 68
def n_timer_Timer_Write : Nat := 69
def n_uart_Uart_Write : Nat := 70
def n_dma_Dma_Write : Nat := 71
def n_disk_Disk_Write : Nat := 72
def n_pianolaref2_Ram_touch : Nat := 73
def n_pianolaref15_Bus_timer : Nat := 74
def n_pianolaref15_Bus_uart : Nat := 75
def n_pianolaref15_Bus_dma : Nat := 76
def n_pianolaref15_Bus_disk : Nat := 77
def n_wheel_Wheel_Next : Nat := 78
def n_lines_Lines_Raised : Nat := 79
def n_wheel_Wheel_All : Nat := 80
def n_uart_Uart_Out : Nat := 81
def n_disk_Disk_Bytes : Nat := 82
def n_slices_Delete_api_Event_api_Event : Nat := 83
def n_timer_Timer_Fire : Nat := 84
def n_uart_Uart_Fire : Nat := 85
def n_dma_Dma_Fire : Nat := 86
def n_disk_Disk_Fire : Nat := 87
def n_pianolaref9_Wheel_Arm : Nat := 88
def n_pianolaref15_Bus_move : Nat := 89
def n_pianolaref15_Bus_sector : Nat := 90
def n_slices_Clone_byte_byte : Nat := 92
def n_uart_take : Nat := 93
def n_uart_bit : Nat := 94
def n_timer_Timer_Line : Nat := 95
def n_uart_Uart_Line : Nat := 96
def n_dma_Dma_Line : Nat := 97
def n_disk_Disk_Line : Nat := 98
def n_timer_Timer_arm : Nat := 99
def n_wheel_Wheel_Cancel : Nat := 100
def n_uart_put : Nat := 101
def n_uart_Uart_arm : Nat := 102
def n_dma_Dma_begin : Nat := 103
def n_disk_Disk_begin : Nat := 104
def n_pianolaref9_Wheel_Cancel : Nat := 105
def n_slices_Clone_api_Event_api_Event : Nat := 106
def n_dma_Dma_move : Nat := 107
def n_disk_Disk_do : Nat := 108
def n_pianolaref2_Ram_Bytes : Nat := 109
def n_pianolaref2_Ram_Put : Nat := 110
def n_wheel_Wheel_Arm : Nat := 111
def n_wheel_Wheel_find : Nat := 112
def n_disk_Disk_Sectors : Nat := 113
def n_slices_SortStableFunc_api_Event_api_Event : Nat := 114
def n_wheel_Wheel_Arm_1 : Nat := 115
def n_cmp_Compare_int64 : Nat := 116
def n_slices_IndexFunc_api_Event_api_Event : Nat := 117
def n_wheel_Wheel_find_1 : Nat := 118
def n_slices_stableCmpFunc_api_Event : Nat := 119
def n_cmp_isNaN_int64 : Nat := 120
def n_slices_insertionSortCmpFunc_api_Event : Nat := 121
def n_slices_symMergeCmpFunc_api_Event : Nat := 122
def n_slices_rotateCmpFunc_api_Event : Nat := 123
def n_slices_swapRangeCmpFunc_api_Event : Nat := 124
end Go.Proofs.YtpdfdemoflofhaaGreat.Cd

set_option maxRecDepth 100000
set_option linter.defProp false
namespace Go.Proofs.YtpdfdemoflofhaaGreat.Cd
open Go Go.Dx
def c0_pianolalaw15_BusNumbers : C :=
 .seq (.ops [⟨some 53, none, .mov (.t 6)⟩,
  ⟨some 54, none, .mov (.t 8)⟩,
  ⟨some 55, none, .bin .neq (.t 53) (.t 54)⟩,
  ⟨some 56, none, .mov (.t 55)⟩,
  ⟨some 57, some (56, false), .mov (.t 7)⟩,
  ⟨some 58, some (56, false), .mov (.t 9)⟩,
  ⟨some 59, some (56, false), .eqb true (.t 57) (.t 58)⟩,
  ⟨some 60, none, .pick (.t 56) (.c (.bool true)) (.t 59)⟩,
  ⟨some 61, none, .mov (.t 60)⟩,
  ⟨some 62, some (61, false), .mov (.t 1)⟩,
  ⟨some 63, some (61, false), .mov (.t 3)⟩,
  ⟨some 64, some (61, false), .bin .add (.c (.int .u32 520093688)) (.t 63)⟩,
  ⟨some 65, some (61, false), .mov (.t 5)⟩,
  ⟨some 66, some (61, false), .mov (.t 3)⟩,
  ⟨some 67, some (61, false), .call n_bus_Bus_Store [(.t 62), (.t 64), (.t 65), (.t 66), (.c (.int .i64 5))]⟩,
  ⟨some 68, some (61, false), .mov (.t 2)⟩,
  ⟨some 69, some (61, false), .mov (.t 3)⟩,
  ⟨some 70, some (61, false), .bin .add (.c (.int .u32 520093688)) (.t 69)⟩,
  ⟨some 71, some (61, false), .mov (.t 5)⟩,
  ⟨some 72, some (61, false), .mov (.t 3)⟩,
  ⟨some 73, some (61, false), .call n_pianolaref15_Bus_Store [(.t 68), (.t 70), (.t 71), (.t 72), (.c (.int .i64 5))]⟩,
  ⟨some 74, some (61, false), .eqb true (.t 67) (.t 73)⟩,
  ⟨some 75, none, .pick (.t 61) (.c (.bool true)) (.t 74)⟩,
  ⟨some 76, none, .mov (.t 75)⟩,
  ⟨some 77, some (76, false), .mov (.t 1)⟩,
  ⟨some 78, some (76, false), .mov (.t 2)⟩,
  ⟨some 79, some (76, false), .call n_pianolalaw15_same [(.t 77), (.t 78)]⟩,
  ⟨some 80, some (76, false), .un .not (.t 79)⟩,
  ⟨some 81, none, .pick (.t 76) (.c (.bool true)) (.t 80)⟩])
  (.cond (.t 81)
  (.seq (.ops [⟨some 0, none, .mov (.c (.bool false))⟩])
  (.ret))
  (.skip))
def c1_pianolalaw15_BusNumbers : C :=
 .seq (.ops [⟨some 46, none, .mov (.t 2)⟩,
  ⟨some 47, none, .mov (.t 3)⟩,
  ⟨some 48, none, .bin .add (.c (.int .u32 520093688)) (.t 47)⟩,
  ⟨some 49, none, .mov (.t 5)⟩,
  ⟨some 50, none, .call n_pianolaref15_Bus_Load [(.t 46), (.t 48), (.t 49), (.c (.int .i64 5))]⟩,
  ⟨some 45, none, .mov (.t 50)⟩,
  ⟨some 51, none, .ext (.t 45) 0⟩,
  ⟨some 52, none, .ext (.t 45) 1⟩,
  ⟨some 8, none, .mov (.t 51)⟩,
  ⟨some 9, none, .mov (.t 52)⟩])
  (c0_pianolalaw15_BusNumbers)
def c2_pianolalaw15_BusNumbers : C :=
 .seq (.ops [⟨some 38, none, .mov (.t 1)⟩,
  ⟨some 39, none, .mov (.t 3)⟩,
  ⟨some 40, none, .bin .add (.c (.int .u32 520093688)) (.t 39)⟩,
  ⟨some 41, none, .mov (.t 5)⟩,
  ⟨some 42, none, .call n_bus_Bus_Load [(.t 38), (.t 40), (.t 41), (.c (.int .i64 5))]⟩,
  ⟨some 37, none, .mov (.t 42)⟩,
  ⟨some 43, none, .ext (.t 37) 0⟩,
  ⟨some 44, none, .ext (.t 37) 1⟩,
  ⟨some 6, none, .mov (.t 43)⟩,
  ⟨some 7, none, .mov (.t 44)⟩])
  (c1_pianolalaw15_BusNumbers)
def c3_pianolalaw15_BusNumbers : C :=
 .seq (.ops [⟨some 34, none, .bin .lss (.t 33) (.t 32)⟩])
  (.seq (.cond (.t 34)
  (.skip)
  (.exit 2))
  (.seq (.block 3
  (.seq (.ops [⟨some 35, none, .ia 1 (.t 31) (.t 33)⟩,
  ⟨some 36, none, .ld (.t 35)⟩,
  ⟨some 5, none, .mov (.t 36)⟩])
  (c2_pianolalaw15_BusNumbers)))
  (.ops [⟨some 82, none, .bin .add (.t 33) (.c (.int .i64 1))⟩,
  ⟨some 33, none, .mov (.t 82)⟩])))
def c4_pianolalaw15_BusNumbers : C :=
 .seq (.block 1
  (.seq (.ops [⟨some 31, none, .bsl 4 [(.int .i64 0), (.int .i64 0), (.int .i64 0), (.int .i64 0)] [(0, 1, (.c (.int .i64 1))), (1, 1, (.c (.int .i64 2))), (2, 1, (.c (.int .i64 4))), (3, 1, (.c (.int .i64 3)))]⟩,
  ⟨some 32, none, .len 1 (.t 31)⟩,
  ⟨some 33, none, .mov (.c (.int .i64 0))⟩])
  (.block 2
  (.loop c3_pianolalaw15_BusNumbers))))
  (.ops [⟨some 29, none, .mov (.t 3)⟩,
  ⟨some 30, none, .bin .add (.t 29) (.c (.int .u32 1))⟩,
  ⟨some 3, none, .mov (.t 30)⟩])
def c5_pianolalaw15_BusNumbers : C :=
 .seq (.seq (.ops [⟨some 27, none, .mov (.t 3)⟩,
  ⟨some 28, none, .bin .lss (.t 27) (.c (.int .u32 448))⟩])
  (.cond (.t 28)
  (.skip)
  (.exit 0)))
  (c4_pianolalaw15_BusNumbers)
def c6_pianolalaw15_BusNumbers : C :=
 .seq (.ops [⟨some 107, none, .mov (.t 13)⟩,
  ⟨some 108, none, .mov (.t 15)⟩,
  ⟨some 109, none, .bin .neq (.t 107) (.t 108)⟩,
  ⟨some 110, none, .mov (.t 109)⟩,
  ⟨some 111, some (110, false), .mov (.t 14)⟩,
  ⟨some 112, some (110, false), .mov (.t 16)⟩,
  ⟨some 113, some (110, false), .eqb true (.t 111) (.t 112)⟩,
  ⟨some 114, none, .pick (.t 110) (.c (.bool true)) (.t 113)⟩,
  ⟨some 115, none, .mov (.t 114)⟩,
  ⟨some 116, some (115, false), .mov (.t 1)⟩,
  ⟨some 117, some (115, false), .mov (.t 11)⟩,
  ⟨some 118, some (115, false), .mov (.t 12)⟩,
  ⟨some 119, some (115, false), .call n_bus_Bus_Store [(.t 116), (.t 117), (.t 118), (.c (.int .u32 7)), (.c (.int .i64 9))]⟩,
  ⟨some 120, some (115, false), .mov (.t 2)⟩,
  ⟨some 121, some (115, false), .mov (.t 11)⟩,
  ⟨some 122, some (115, false), .mov (.t 12)⟩,
  ⟨some 123, some (115, false), .call n_pianolaref15_Bus_Store [(.t 120), (.t 121), (.t 122), (.c (.int .u32 7)), (.c (.int .i64 9))]⟩,
  ⟨some 124, some (115, false), .eqb true (.t 119) (.t 123)⟩,
  ⟨some 125, none, .pick (.t 115) (.c (.bool true)) (.t 124)⟩])
  (.cond (.t 125)
  (.seq (.ops [⟨some 0, none, .mov (.c (.bool false))⟩])
  (.ret))
  (.skip))
def c7_pianolalaw15_BusNumbers : C :=
 .seq (.ops [⟨some 101, none, .mov (.t 2)⟩,
  ⟨some 102, none, .mov (.t 11)⟩,
  ⟨some 103, none, .mov (.t 12)⟩,
  ⟨some 104, none, .call n_pianolaref15_Bus_Load [(.t 101), (.t 102), (.t 103), (.c (.int .i64 9))]⟩,
  ⟨some 100, none, .mov (.t 104)⟩,
  ⟨some 105, none, .ext (.t 100) 0⟩,
  ⟨some 106, none, .ext (.t 100) 1⟩,
  ⟨some 15, none, .mov (.t 105)⟩,
  ⟨some 16, none, .mov (.t 106)⟩])
  (c6_pianolalaw15_BusNumbers)
def c8_pianolalaw15_BusNumbers : C :=
 .seq (.block 7
  (.seq (.ops [⟨some 94, none, .mov (.t 1)⟩,
  ⟨some 95, none, .mov (.t 11)⟩,
  ⟨some 96, none, .mov (.t 12)⟩,
  ⟨some 97, none, .call n_bus_Bus_Load [(.t 94), (.t 95), (.t 96), (.c (.int .i64 9))]⟩,
  ⟨some 93, none, .mov (.t 97)⟩,
  ⟨some 98, none, .ext (.t 93) 0⟩,
  ⟨some 99, none, .ext (.t 93) 1⟩,
  ⟨some 13, none, .mov (.t 98)⟩,
  ⟨some 14, none, .mov (.t 99)⟩])
  (c7_pianolalaw15_BusNumbers)))
  (.ops [⟨some 91, none, .mov (.t 12)⟩,
  ⟨some 92, none, .bin .add (.t 91) (.c (.int .i64 1))⟩,
  ⟨some 12, none, .mov (.t 92)⟩])
def c9_pianolalaw15_BusNumbers : C :=
 .seq (.seq (.ops [⟨some 89, none, .mov (.t 12)⟩,
  ⟨some 90, none, .bin .lss (.t 89) (.c (.int .i64 6))⟩])
  (.cond (.t 90)
  (.skip)
  (.exit 6)))
  (c8_pianolalaw15_BusNumbers)
def c10_pianolalaw15_BusNumbers : C :=
 .seq (.block 5
  (.seq (.ops [⟨some 87, none, .ia 1 (.t 83) (.t 85)⟩,
  ⟨some 88, none, .ld (.t 87)⟩,
  ⟨some 11, none, .mov (.t 88)⟩])
  (.seq (.ops [⟨some 12, none, .mov (.c (.int .i64 0))⟩])
  (.block 6
  (.loop c9_pianolalaw15_BusNumbers)))))
  (.ops [⟨some 126, none, .bin .add (.t 85) (.c (.int .i64 1))⟩,
  ⟨some 85, none, .mov (.t 126)⟩])
def c11_pianolalaw15_BusNumbers : C :=
 .seq (.ops [⟨some 86, none, .bin .lss (.t 85) (.t 84)⟩])
  (.seq (.cond (.t 86)
  (.skip)
  (.exit 4))
  (c10_pianolalaw15_BusNumbers))
def c12_pianolalaw15_BusNumbers : C :=
 .seq (.ops [⟨some 127, none, .mov (.t 1)⟩,
  ⟨some 128, none, .call n_bus_Bus_Fire [(.t 127), (.c (.int .i64 5000))]⟩,
  ⟨some 129, none, .mov (.t 2)⟩,
  ⟨some 130, none, .call n_pianolaref15_Bus_Fire [(.t 129), (.c (.int .i64 5000))]⟩,
  ⟨some 131, none, .bin .eql (.t 128) (.t 130)⟩,
  ⟨some 132, none, .mov (.t 131)⟩,
  ⟨some 133, some (132, true), .mov (.t 1)⟩,
  ⟨some 134, some (132, true), .mov (.t 2)⟩,
  ⟨some 135, some (132, true), .call n_pianolalaw15_same [(.t 133), (.t 134)]⟩,
  ⟨some 136, none, .pick (.t 132) (.t 135) (.c (.bool false))⟩,
  ⟨some 137, none, .mov (.t 136)⟩,
  ⟨some 138, some (137, true), .call n_pianolalaw15_known []⟩,
  ⟨some 139, none, .pick (.t 137) (.t 138) (.c (.bool false))⟩,
  ⟨some 0, none, .mov (.t 139)⟩])
  (.ret)
def c13_pianolalaw15_BusNumbers : C :=
 .seq (.seq (.ops [⟨some 83, none, .bsl 6 [(.int .u32 0), (.int .u32 0), (.int .u32 0), (.int .u32 0), (.int .u32 0), (.int .u32 0)] [(0, 1, (.c (.int .u32 1020))), (1, 1, (.c (.int .u32 1023))), (2, 1, (.c (.int .u32 1024))), (3, 1, (.c (.int .u32 2000))), (4, 1, (.c (.int .u32 2147483648))), (5, 1, (.c (.int .u32 4294967295)))]⟩,
  ⟨some 84, none, .len 1 (.t 83)⟩,
  ⟨some 85, none, .mov (.c (.int .i64 0))⟩])
  (.block 4
  (.loop c11_pianolalaw15_BusNumbers)))
  (c12_pianolalaw15_BusNumbers)
def c14_pianolalaw15_BusNumbers : C :=
 .seq (.any 4 [.al 0 0 ⟨some 17, none, .mks [(.int .u8 0)] 1 (.c (.int .i64 2000)) (.c (.int .i64 2000))⟩,
  .al 1 1 ⟨some 18, none, .bsl 1 [(.int .u8 0)] [(0, 1, (.c (.int .u8 120)))]⟩,
  .op 2 ⟨some 19, none, .ms (.t 18)⟩,
  .op 3 ⟨some 20, none, .call n_bus_New [(.c (.int .i64 1)), (.t 17), (.t 19)]⟩,
  .al 4 2 ⟨some 21, none, .mks [(.int .u8 0)] 1 (.c (.int .i64 2000)) (.c (.int .i64 2000))⟩,
  .al 5 3 ⟨some 22, none, .bsl 1 [(.int .u8 0)] [(0, 1, (.c (.int .u8 120)))]⟩,
  .op 6 ⟨some 23, none, .ms (.t 22)⟩,
  .op 7 ⟨some 24, none, .call n_pianolaref15_New [(.c (.int .i64 1)), (.t 21), (.t 23)]⟩,
  .op 8 ⟨some 1, none, .mov (.t 20)⟩,
  .op 9 ⟨some 2, none, .mov (.t 24)⟩])
  (.seq (.seq (.ops [⟨some 25, none, .mov (.t 1)⟩,
  ⟨some 26, none, .eqn 0 false (.t 25)⟩])
  (.cond (.t 26)
  (.seq (.ops [⟨some 0, none, .mov (.c (.bool false))⟩])
  (.ret))
  (.skip)))
  (.seq (.seq (.ops [⟨some 3, none, .mov (.c (.int .u32 0))⟩])
  (.block 0
  (.loop c5_pianolalaw15_BusNumbers)))
  (c13_pianolalaw15_BusNumbers)))
def c_pianolalaw15_BusNumbers : C :=
 .seq (.ops [⟨some 0, none, .mov (.c (.bool false))⟩])
  (c14_pianolalaw15_BusNumbers)
def f_pianolalaw15_BusNumbers : F := ⟨c_pianolalaw15_BusNumbers, [.t 0], some []⟩
theorem h_pianolalaw15_BusNumbers : compF Tryz.prog (compAny Tryz.prog) n_pianolalaw15_BusNumbers = some (f_pianolalaw15_BusNumbers.body, f_pianolalaw15_BusNumbers.res) := by kernel_rfl
def c0_bus_New : C :=
 .seq (.ops [⟨some 22, none, .mov (.t 7)⟩,
  ⟨some 23, none, .mov (.t 8)⟩,
  ⟨some 24, none, .call n_lines_New []⟩,
  ⟨some 25, none, .mov (.t 8)⟩,
  ⟨some 26, none, .call n_timer_New [(.c (.int .i64 1)), (.t 25)]⟩,
  ⟨some 27, none, .mov (.t 8)⟩,
  ⟨some 28, none, .call n_timer_New [(.c (.int .i64 2)), (.t 27)]⟩,
  ⟨some 29, none, .mov (.t 8)⟩,
  ⟨some 30, none, .call n_uart_New [(.c (.int .i64 3)), (.t 29)]⟩,
  ⟨some 31, none, .mov (.t 8)⟩,
  ⟨some 32, none, .mov (.t 7)⟩,
  ⟨some 33, none, .call n_dma_New [(.c (.int .i64 4)), (.t 31), (.t 32)]⟩,
  ⟨some 34, none, .mov (.t 8)⟩,
  ⟨some 35, none, .mov (.t 7)⟩,
  ⟨some 36, none, .mov (.t 2)⟩,
  ⟨some 37, none, .call n_disk_New [(.c (.int .i64 5)), (.t 34), (.t 35), (.t 36)]⟩,
  ⟨some 38, none, .build [(.pointer none), (.pointer none), (.pointer none), (.pointer none), (.pointer none), (.pointer none), (.pointer none), (.pointer none)] [(0, 1, (.t 22)), (1, 1, (.t 23)), (2, 1, (.t 24)), (3, 1, (.t 26)), (4, 1, (.t 28)), (5, 1, (.t 30)), (6, 1, (.t 33)), (7, 1, (.t 37))]⟩,
  ⟨some 39, none, .box (.t 38)⟩,
  ⟨some 6, none, .mov (.t 39)⟩])
  (.ret)
def c1_bus_New : C :=
 .seq (.ops [⟨some 12, none, .mov (.t 7)⟩,
  ⟨some 13, none, .mov (.t 1)⟩,
  ⟨some 14, none, .mov (.t 1)⟩,
  ⟨some 15, none, .len 1 (.t 14)⟩,
  ⟨some 16, none, .mov (.t 7)⟩,
  ⟨some 17, none, .call n_ram_Ram_Size [(.t 16)]⟩,
  ⟨some 18, none, .conv .i64 (.t 17)⟩,
  ⟨some 19, none, .mn (.t 15) (.t 18)⟩,
  ⟨some 20, none, .sl 1 (.t 13) none (some (.t 19)) none⟩,
  ⟨some 21, none, .call n_ram_Ram_Put [(.t 12), (.c (.int .u32 0)), (.t 20)]⟩])
  (c0_bus_New)
def c_bus_New : C :=
 .seq (.ops [⟨some 6, none, .mov (.c (.pointer none))⟩])
  (.seq (.ops [⟨some 9, none, .mov (.t 0)⟩,
  ⟨some 10, none, .call n_ram_New [(.t 9)]⟩,
  ⟨some 11, none, .call n_wheel_New []⟩,
  ⟨some 7, none, .mov (.t 10)⟩,
  ⟨some 8, none, .mov (.t 11)⟩])
  (c1_bus_New))
def f_bus_New : F := ⟨c_bus_New, [.t 6], some []⟩
theorem h_bus_New : compF Tryz.prog (compAny Tryz.prog) n_bus_New = some (f_bus_New.body, f_bus_New.res) := by kernel_rfl
def c0_pianolaref15_New : C :=
 .seq (.ops [⟨some 35, none, .mov (.t 7)⟩,
  ⟨some 36, none, .nilc (.t 35)⟩,
  ⟨some 37, none, .fa 18 (.t 36)⟩,
  ⟨some 38, none, .fa 4 (.t 37)⟩,
  ⟨some 39, none, .ld (.t 38)⟩,
  ⟨some 40, none, .mov (.t 2)⟩,
  ⟨some 41, none, .cpy 1 (.t 39) (.t 40)⟩])
  (.seq (.ops [⟨some 42, none, .mov (.t 7)⟩,
  ⟨some 6, none, .mov (.t 42)⟩])
  (.ret))
def c1_pianolaref15_New : C :=
 .seq (.ops [⟨some 28, none, .mov (.t 7)⟩,
  ⟨some 29, none, .mov (.t 8)⟩,
  ⟨some 30, none, .bin .mul (.t 29) (.c (.int .i64 64))⟩,
  ⟨some 31, none, .mks [(.int .u8 0)] 1 (.t 30) (.t 30)⟩,
  ⟨some 32, none, .nilc (.t 28)⟩,
  ⟨some 33, none, .fa 18 (.t 32)⟩,
  ⟨some 34, none, .fa 4 (.t 33)⟩,
  ⟨none, none, .st (.t 34) (.t 31)⟩])
  (c0_pianolaref15_New)
def c2_pianolaref15_New : C :=
 .seq (.ops [⟨some 22, none, .mov (.t 2)⟩,
  ⟨some 23, none, .len 1 (.t 22)⟩,
  ⟨some 24, none, .bin .add (.t 23) (.c (.int .i64 64))⟩,
  ⟨some 25, none, .bin .sub (.t 24) (.c (.int .i64 1))⟩,
  ⟨some 26, none, .bin .quo (.t 25) (.c (.int .i64 64))⟩,
  ⟨some 27, none, .mn (.t 26) (.c (.int .i64 64))⟩,
  ⟨some 8, none, .mov (.t 27)⟩])
  (c1_pianolaref15_New)
def c3_pianolaref15_New : C :=
 .seq (.ops [⟨some 13, none, .mov (.t 7)⟩,
  ⟨some 14, none, .nilc (.t 13)⟩,
  ⟨some 15, none, .fa 0 (.t 14)⟩,
  ⟨some 16, none, .ld (.t 15)⟩,
  ⟨some 17, none, .nilc (.t 16)⟩,
  ⟨some 18, none, .fa 0 (.t 17)⟩,
  ⟨some 19, none, .ld (.t 18)⟩,
  ⟨some 20, none, .mov (.t 1)⟩,
  ⟨some 21, none, .cpy 1 (.t 19) (.t 20)⟩])
  (c2_pianolaref15_New)
def c4_pianolaref15_New : C :=
 .seq (.ops [⟨some 9, none, .mov (.t 0)⟩,
  ⟨some 10, none, .call n_pianolaref2_New [(.t 9)]⟩,
  ⟨some 11, none, .build [(.pointer none), (.slice none 0 0), (.int .i64 0), (.int .u32 0), (.int .u32 0), (.int .u32 0), (.int .u32 0), (.int .u32 0), (.int .u32 0), (.slice none 0 0), (.slice none 0 0), (.bool false), (.int .u32 0), (.slice none 0 0), (.int .u32 0), (.int .u32 0), (.int .u32 0), (.int .u32 0), (.int .u32 0), (.int .u32 0), (.int .u32 0), (.int .u32 0), (.slice none 0 0), (.int .u32 0), (.int .u32 0)] [(0, 1, (.t 10))]⟩,
  ⟨some 12, none, .box (.t 11)⟩,
  ⟨some 7, none, .mov (.t 12)⟩])
  (c3_pianolaref15_New)
def c_pianolaref15_New : C :=
 .seq (.ops [⟨some 6, none, .mov (.c (.pointer none))⟩])
  (c4_pianolaref15_New)
def f_pianolaref15_New : F := ⟨c_pianolaref15_New, [.t 6], some []⟩
theorem h_pianolaref15_New : compF Tryz.prog (compAny Tryz.prog) n_pianolaref15_New = some (f_pianolaref15_New.body, f_pianolaref15_New.res) := by kernel_rfl
def c0_bus_Bus_Load : C :=
 .seq (.ops [⟨some 21, none, .mov (.t 0)⟩,
  ⟨some 22, none, .nilc (.t 21)⟩,
  ⟨some 23, none, .fa 0 (.t 22)⟩,
  ⟨some 24, none, .ld (.t 23)⟩,
  ⟨some 25, none, .mov (.t 1)⟩,
  ⟨some 26, none, .mov (.t 2)⟩,
  ⟨some 27, none, .call n_ram_Ram_Load [(.t 24), (.t 25), (.t 26)]⟩,
  ⟨some 28, none, .ext (.t 27) 0⟩,
  ⟨some 29, none, .ext (.t 27) 1⟩,
  ⟨some 8, none, .mov (.t 28)⟩,
  ⟨some 9, none, .mov (.t 29)⟩])
  (.ret)
def c1_bus_Bus_Load : C :=
 .seq (.ops [⟨some 40, none, .mov (.t 0)⟩,
  ⟨some 41, none, .mov (.t 10)⟩,
  ⟨some 42, none, .mov (.t 11)⟩,
  ⟨some 43, none, .mov (.t 3)⟩,
  ⟨some 44, none, .call n_bus_Bus_read [(.t 40), (.t 41), (.t 42), (.t 43)]⟩,
  ⟨some 39, none, .mov (.t 44)⟩,
  ⟨some 45, none, .ext (.t 39) 0⟩,
  ⟨some 46, none, .ext (.t 39) 1⟩,
  ⟨some 13, none, .mov (.t 45)⟩,
  ⟨some 12, none, .mov (.t 46)⟩])
  (.seq (.ops [⟨some 47, none, .mov (.t 0)⟩,
  ⟨some 48, none, .call n_bus_Bus_gather [(.t 47)]⟩])
  (.seq (.ops [⟨some 49, none, .mov (.t 13)⟩,
  ⟨some 50, none, .mov (.t 12)⟩,
  ⟨some 8, none, .mov (.t 49)⟩,
  ⟨some 9, none, .mov (.t 50)⟩])
  (.ret)))
def c2_bus_Bus_Load : C :=
 .seq (.ops [⟨some 31, none, .mov (.t 1)⟩,
  ⟨some 32, none, .mov (.t 2)⟩,
  ⟨some 33, none, .call n_bus_window [(.t 31), (.t 32)]⟩,
  ⟨some 30, none, .mov (.t 33)⟩,
  ⟨some 34, none, .ext (.t 30) 0⟩,
  ⟨some 35, none, .ext (.t 30) 1⟩,
  ⟨some 36, none, .ext (.t 30) 2⟩,
  ⟨some 10, none, .mov (.t 34)⟩,
  ⟨some 11, none, .mov (.t 35)⟩,
  ⟨some 12, none, .mov (.t 36)⟩])
  (.seq (.seq (.ops [⟨some 37, none, .mov (.t 12)⟩,
  ⟨some 38, none, .un .not (.t 37)⟩])
  (.cond (.t 38)
  (.seq (.ops [⟨some 8, none, .mov (.c (.int .u32 0))⟩,
  ⟨some 9, none, .mov (.c (.bool false))⟩])
  (.ret))
  (.skip)))
  (c1_bus_Bus_Load))
def c3_bus_Bus_Load : C :=
 .seq (.seq (.ops [⟨some 14, none, .mov (.t 1)⟩,
  ⟨some 15, none, .mov (.t 0)⟩,
  ⟨some 16, none, .nilc (.t 15)⟩,
  ⟨some 17, none, .fa 0 (.t 16)⟩,
  ⟨some 18, none, .ld (.t 17)⟩,
  ⟨some 19, none, .call n_ram_Ram_Size [(.t 18)]⟩,
  ⟨some 20, none, .bin .lss (.t 14) (.t 19)⟩])
  (.cond (.t 20)
  (c0_bus_Bus_Load)
  (.skip)))
  (c2_bus_Bus_Load)
def c_bus_Bus_Load : C :=
 .seq (.ops [⟨some 8, none, .mov (.c (.int .u32 0))⟩,
  ⟨some 9, none, .mov (.c (.bool false))⟩])
  (c3_bus_Bus_Load)
def f_bus_Bus_Load : F := ⟨c_bus_Bus_Load, [.t 8, .t 9], some []⟩
theorem h_bus_Bus_Load : compF Tryz.prog (compAny Tryz.prog) n_bus_Bus_Load = some (f_bus_Bus_Load.body, f_bus_Bus_Load.res) := by kernel_rfl
def c0_pianolaref15_Bus_Load : C :=
 .seq (.ops [⟨some 26, none, .mov (.t 0)⟩,
  ⟨some 27, none, .nilc (.t 26)⟩,
  ⟨some 28, none, .fa 0 (.t 27)⟩,
  ⟨some 29, none, .ld (.t 28)⟩,
  ⟨some 30, none, .mov (.t 1)⟩,
  ⟨some 31, none, .mov (.t 2)⟩,
  ⟨some 32, none, .call n_pianolaref2_Ram_Load [(.t 29), (.t 30), (.t 31)]⟩,
  ⟨some 33, none, .ext (.t 32) 0⟩,
  ⟨some 34, none, .ext (.t 32) 1⟩,
  ⟨some 8, none, .mov (.t 33)⟩,
  ⟨some 9, none, .mov (.t 34)⟩])
  (.ret)
def c1_pianolaref15_Bus_Load : C :=
 .seq (.ops [⟨some 45, none, .mov (.t 0)⟩,
  ⟨some 46, none, .mov (.t 10)⟩,
  ⟨some 47, none, .mov (.t 11)⟩,
  ⟨some 48, none, .mov (.t 3)⟩,
  ⟨some 49, none, .call n_pianolaref15_Bus_Word [(.t 45), (.t 46), (.t 47), (.t 48)]⟩,
  ⟨some 44, none, .mov (.t 49)⟩,
  ⟨some 50, none, .ext (.t 44) 0⟩,
  ⟨some 51, none, .ext (.t 44) 1⟩,
  ⟨some 13, none, .mov (.t 50)⟩,
  ⟨some 14, none, .mov (.t 51)⟩])
  (.seq (.ops [⟨some 52, none, .mov (.t 0)⟩,
  ⟨some 53, none, .call n_pianolaref15_Bus_gather [(.t 52)]⟩])
  (.seq (.ops [⟨some 54, none, .mov (.t 13)⟩,
  ⟨some 55, none, .mov (.t 14)⟩,
  ⟨some 8, none, .mov (.t 54)⟩,
  ⟨some 9, none, .mov (.t 55)⟩])
  (.ret)))
def c2_pianolaref15_Bus_Load : C :=
 .seq (.ops [⟨some 36, none, .mov (.t 1)⟩,
  ⟨some 37, none, .mov (.t 2)⟩,
  ⟨some 38, none, .call n_pianolaref15_where [(.t 36), (.t 37)]⟩,
  ⟨some 35, none, .mov (.t 38)⟩,
  ⟨some 39, none, .ext (.t 35) 0⟩,
  ⟨some 40, none, .ext (.t 35) 1⟩,
  ⟨some 41, none, .ext (.t 35) 2⟩,
  ⟨some 10, none, .mov (.t 39)⟩,
  ⟨some 11, none, .mov (.t 40)⟩,
  ⟨some 12, none, .mov (.t 41)⟩])
  (.seq (.seq (.ops [⟨some 42, none, .mov (.t 12)⟩,
  ⟨some 43, none, .un .not (.t 42)⟩])
  (.cond (.t 43)
  (.seq (.ops [⟨some 8, none, .mov (.c (.int .u32 0))⟩,
  ⟨some 9, none, .mov (.c (.bool false))⟩])
  (.ret))
  (.skip)))
  (c1_pianolaref15_Bus_Load))
def c3_pianolaref15_Bus_Load : C :=
 .seq (.seq (.ops [⟨some 15, none, .mov (.t 1)⟩,
  ⟨some 16, none, .mov (.t 0)⟩,
  ⟨some 17, none, .nilc (.t 16)⟩,
  ⟨some 18, none, .fa 0 (.t 17)⟩,
  ⟨some 19, none, .ld (.t 18)⟩,
  ⟨some 20, none, .nilc (.t 19)⟩,
  ⟨some 21, none, .fa 0 (.t 20)⟩,
  ⟨some 22, none, .ld (.t 21)⟩,
  ⟨some 23, none, .len 1 (.t 22)⟩,
  ⟨some 24, none, .conv .u32 (.t 23)⟩,
  ⟨some 25, none, .bin .lss (.t 15) (.t 24)⟩])
  (.cond (.t 25)
  (c0_pianolaref15_Bus_Load)
  (.skip)))
  (c2_pianolaref15_Bus_Load)
def c_pianolaref15_Bus_Load : C :=
 .seq (.ops [⟨some 8, none, .mov (.c (.int .u32 0))⟩,
  ⟨some 9, none, .mov (.c (.bool false))⟩])
  (c3_pianolaref15_Bus_Load)
def f_pianolaref15_Bus_Load : F := ⟨c_pianolaref15_Bus_Load, [.t 8, .t 9], some []⟩
theorem h_pianolaref15_Bus_Load : compF Tryz.prog (compAny Tryz.prog) n_pianolaref15_Bus_Load = some (f_pianolaref15_Bus_Load.body, f_pianolaref15_Bus_Load.res) := by kernel_rfl
def c0_bus_Bus_Store : C :=
 .seq (.ops [⟨some 21, none, .mov (.t 0)⟩,
  ⟨some 22, none, .nilc (.t 21)⟩,
  ⟨some 23, none, .fa 0 (.t 22)⟩,
  ⟨some 24, none, .ld (.t 23)⟩,
  ⟨some 25, none, .mov (.t 1)⟩,
  ⟨some 26, none, .mov (.t 2)⟩,
  ⟨some 27, none, .mov (.t 3)⟩,
  ⟨some 28, none, .call n_ram_Ram_Store [(.t 24), (.t 25), (.t 26), (.t 27)]⟩,
  ⟨some 10, none, .mov (.t 28)⟩])
  (.ret)
def c1_bus_Bus_Store : C :=
 .seq (.ops [⟨some 38, none, .mov (.t 0)⟩,
  ⟨some 39, none, .mov (.t 11)⟩,
  ⟨some 40, none, .mov (.t 12)⟩,
  ⟨some 41, none, .mov (.t 3)⟩,
  ⟨some 42, none, .mov (.t 4)⟩,
  ⟨some 43, none, .call n_bus_Bus_write [(.t 38), (.t 39), (.t 40), (.t 41), (.t 42)]⟩,
  ⟨some 13, none, .mov (.t 43)⟩])
  (.seq (.ops [⟨some 44, none, .mov (.t 0)⟩,
  ⟨some 45, none, .call n_bus_Bus_gather [(.t 44)]⟩])
  (.seq (.ops [⟨some 46, none, .mov (.t 13)⟩,
  ⟨some 10, none, .mov (.t 46)⟩])
  (.ret)))
def c2_bus_Bus_Store : C :=
 .seq (.ops [⟨some 30, none, .mov (.t 1)⟩,
  ⟨some 31, none, .mov (.t 2)⟩,
  ⟨some 32, none, .call n_bus_window [(.t 30), (.t 31)]⟩,
  ⟨some 29, none, .mov (.t 32)⟩,
  ⟨some 33, none, .ext (.t 29) 0⟩,
  ⟨some 34, none, .ext (.t 29) 1⟩,
  ⟨some 35, none, .ext (.t 29) 2⟩,
  ⟨some 11, none, .mov (.t 33)⟩,
  ⟨some 12, none, .mov (.t 34)⟩,
  ⟨some 13, none, .mov (.t 35)⟩])
  (.seq (.seq (.ops [⟨some 36, none, .mov (.t 13)⟩,
  ⟨some 37, none, .un .not (.t 36)⟩])
  (.cond (.t 37)
  (.seq (.ops [⟨some 10, none, .mov (.c (.bool false))⟩])
  (.ret))
  (.skip)))
  (c1_bus_Bus_Store))
def c3_bus_Bus_Store : C :=
 .seq (.seq (.ops [⟨some 14, none, .mov (.t 1)⟩,
  ⟨some 15, none, .mov (.t 0)⟩,
  ⟨some 16, none, .nilc (.t 15)⟩,
  ⟨some 17, none, .fa 0 (.t 16)⟩,
  ⟨some 18, none, .ld (.t 17)⟩,
  ⟨some 19, none, .call n_ram_Ram_Size [(.t 18)]⟩,
  ⟨some 20, none, .bin .lss (.t 14) (.t 19)⟩])
  (.cond (.t 20)
  (c0_bus_Bus_Store)
  (.skip)))
  (c2_bus_Bus_Store)
def c_bus_Bus_Store : C :=
 .seq (.ops [⟨some 10, none, .mov (.c (.bool false))⟩])
  (c3_bus_Bus_Store)
def f_bus_Bus_Store : F := ⟨c_bus_Bus_Store, [.t 10], some []⟩
theorem h_bus_Bus_Store : compF Tryz.prog (compAny Tryz.prog) n_bus_Bus_Store = some (f_bus_Bus_Store.body, f_bus_Bus_Store.res) := by kernel_rfl
def c0_pianolaref15_Bus_Store : C :=
 .seq (.ops [⟨some 26, none, .mov (.t 0)⟩,
  ⟨some 27, none, .nilc (.t 26)⟩,
  ⟨some 28, none, .fa 0 (.t 27)⟩,
  ⟨some 29, none, .ld (.t 28)⟩,
  ⟨some 30, none, .mov (.t 1)⟩,
  ⟨some 31, none, .mov (.t 2)⟩,
  ⟨some 32, none, .mov (.t 3)⟩,
  ⟨some 33, none, .call n_pianolaref2_Ram_Store [(.t 29), (.t 30), (.t 31), (.t 32)]⟩,
  ⟨some 10, none, .mov (.t 33)⟩])
  (.ret)
def c1_pianolaref15_Bus_Store : C :=
 .seq (.ops [⟨some 43, none, .mov (.t 0)⟩,
  ⟨some 44, none, .mov (.t 11)⟩,
  ⟨some 45, none, .mov (.t 12)⟩,
  ⟨some 46, none, .mov (.t 3)⟩,
  ⟨some 47, none, .mov (.t 4)⟩,
  ⟨some 48, none, .call n_pianolaref15_Bus_Set [(.t 43), (.t 44), (.t 45), (.t 46), (.t 47)]⟩,
  ⟨some 14, none, .mov (.t 48)⟩])
  (.seq (.ops [⟨some 49, none, .mov (.t 0)⟩,
  ⟨some 50, none, .call n_pianolaref15_Bus_gather [(.t 49)]⟩])
  (.seq (.ops [⟨some 51, none, .mov (.t 14)⟩,
  ⟨some 10, none, .mov (.t 51)⟩])
  (.ret)))
def c2_pianolaref15_Bus_Store : C :=
 .seq (.ops [⟨some 35, none, .mov (.t 1)⟩,
  ⟨some 36, none, .mov (.t 2)⟩,
  ⟨some 37, none, .call n_pianolaref15_where [(.t 35), (.t 36)]⟩,
  ⟨some 34, none, .mov (.t 37)⟩,
  ⟨some 38, none, .ext (.t 34) 0⟩,
  ⟨some 39, none, .ext (.t 34) 1⟩,
  ⟨some 40, none, .ext (.t 34) 2⟩,
  ⟨some 11, none, .mov (.t 38)⟩,
  ⟨some 12, none, .mov (.t 39)⟩,
  ⟨some 13, none, .mov (.t 40)⟩])
  (.seq (.seq (.ops [⟨some 41, none, .mov (.t 13)⟩,
  ⟨some 42, none, .un .not (.t 41)⟩])
  (.cond (.t 42)
  (.seq (.ops [⟨some 10, none, .mov (.c (.bool false))⟩])
  (.ret))
  (.skip)))
  (c1_pianolaref15_Bus_Store))
def c3_pianolaref15_Bus_Store : C :=
 .seq (.seq (.ops [⟨some 15, none, .mov (.t 1)⟩,
  ⟨some 16, none, .mov (.t 0)⟩,
  ⟨some 17, none, .nilc (.t 16)⟩,
  ⟨some 18, none, .fa 0 (.t 17)⟩,
  ⟨some 19, none, .ld (.t 18)⟩,
  ⟨some 20, none, .nilc (.t 19)⟩,
  ⟨some 21, none, .fa 0 (.t 20)⟩,
  ⟨some 22, none, .ld (.t 21)⟩,
  ⟨some 23, none, .len 1 (.t 22)⟩,
  ⟨some 24, none, .conv .u32 (.t 23)⟩,
  ⟨some 25, none, .bin .lss (.t 15) (.t 24)⟩])
  (.cond (.t 25)
  (c0_pianolaref15_Bus_Store)
  (.skip)))
  (c2_pianolaref15_Bus_Store)
def c_pianolaref15_Bus_Store : C :=
 .seq (.ops [⟨some 10, none, .mov (.c (.bool false))⟩])
  (c3_pianolaref15_Bus_Store)
def f_pianolaref15_Bus_Store : F := ⟨c_pianolaref15_Bus_Store, [.t 10], some []⟩
theorem h_pianolaref15_Bus_Store : compF Tryz.prog (compAny Tryz.prog) n_pianolaref15_Bus_Store = some (f_pianolaref15_Bus_Store.body, f_pianolaref15_Bus_Store.res) := by kernel_rfl
def c0_pianolalaw15_same : C :=
 .seq (.any 0 [.op 0 ⟨some 19, none, .mov (.t 0)⟩,
  .op 1 ⟨some 20, none, .call n_bus_Bus_Raised [(.t 19)]⟩,
  .op 2 ⟨some 21, none, .mov (.t 1)⟩,
  .op 3 ⟨some 22, none, .call n_pianolaref15_Bus_Raised [(.t 21)]⟩,
  .op 4 ⟨some 23, none, .eqb false (.t 20) (.t 22)⟩,
  .op 5 ⟨some 24, none, .mov (.t 23)⟩,
  .op 6 ⟨some 25, some (24, true), .mov (.t 5)⟩,
  .op 7 ⟨some 26, some (24, true), .mov (.t 7)⟩,
  .op 8 ⟨some 27, some (24, true), .bin .eql (.t 25) (.t 26)⟩,
  .op 9 ⟨some 28, none, .pick (.t 24) (.t 27) (.c (.bool false))⟩,
  .op 10 ⟨some 29, none, .mov (.t 28)⟩,
  .op 11 ⟨some 30, some (29, true), .mov (.t 6)⟩,
  .op 12 ⟨some 31, some (29, true), .mov (.t 8)⟩,
  .op 13 ⟨some 32, some (29, true), .eqb false (.t 30) (.t 31)⟩,
  .op 14 ⟨some 33, none, .pick (.t 29) (.t 32) (.c (.bool false))⟩,
  .op 15 ⟨some 34, none, .mov (.t 33)⟩,
  .op 18 ⟨some 37, some (34, true), .mov (.t 1)⟩,
  .op 19 ⟨some 38, some (34, true), .nilc (.t 37)⟩,
  .op 20 ⟨some 39, some (34, true), .fa 1 (.t 38)⟩,
  .op 21 ⟨some 40, some (34, true), .fa 0 (.t 39)⟩,
  .op 22 ⟨some 41, some (34, true), .ld (.t 40)⟩,
  .op 16 ⟨some 35, some (34, true), .mov (.t 0)⟩,
  .op 17 ⟨some 36, some (34, true), .call n_bus_Bus_Events [(.t 35)]⟩,
  .re 22 ⟨some 41, some (34, true), .ld (.t 40)⟩,
  .op 23 ⟨some 42, some (34, true), .call n_pianolabook_Same_api_Event [(.t 36), (.t 41)]⟩,
  .op 24 ⟨some 43, none, .pick (.t 34) (.t 42) (.c (.bool false))⟩,
  .op 25 ⟨some 44, none, .mov (.t 43)⟩,
  .op 29 ⟨some 48, some (44, true), .mov (.t 1)⟩,
  .op 30 ⟨some 49, some (44, true), .nilc (.t 48)⟩,
  .op 31 ⟨some 50, some (44, true), .fa 9 (.t 49)⟩,
  .op 32 ⟨some 51, some (44, true), .fa 4 (.t 50)⟩,
  .op 33 ⟨some 52, some (44, true), .ld (.t 51)⟩,
  .op 34 ⟨some 53, some (44, true), .b2s (.t 52)⟩,
  .op 26 ⟨some 45, some (44, true), .mov (.t 0)⟩,
  .op 27 ⟨some 46, some (44, true), .call n_bus_Bus_Out [(.t 45)]⟩,
  .re 33 ⟨some 52, some (44, true), .ld (.t 51)⟩,
  .re 34 ⟨some 53, some (44, true), .b2s (.t 52)⟩,
  .op 28 ⟨some 47, some (44, true), .b2s (.t 46)⟩,
  .op 35 ⟨some 54, some (44, true), .bin .eql (.t 47) (.t 53)⟩,
  .op 36 ⟨some 55, none, .pick (.t 44) (.t 54) (.c (.bool false))⟩,
  .op 37 ⟨some 56, none, .mov (.t 55)⟩,
  .op 41 ⟨some 60, some (56, true), .mov (.t 1)⟩,
  .op 42 ⟨some 61, some (56, true), .nilc (.t 60)⟩,
  .op 43 ⟨some 62, some (56, true), .fa 18 (.t 61)⟩,
  .op 44 ⟨some 63, some (56, true), .fa 4 (.t 62)⟩,
  .op 45 ⟨some 64, some (56, true), .ld (.t 63)⟩,
  .op 46 ⟨some 65, some (56, true), .b2s (.t 64)⟩,
  .op 38 ⟨some 57, some (56, true), .mov (.t 0)⟩,
  .op 39 ⟨some 58, some (56, true), .call n_bus_Bus_Disk [(.t 57)]⟩,
  .re 45 ⟨some 64, some (56, true), .ld (.t 63)⟩,
  .re 46 ⟨some 65, some (56, true), .b2s (.t 64)⟩,
  .op 40 ⟨some 59, some (56, true), .b2s (.t 58)⟩,
  .op 47 ⟨some 66, some (56, true), .bin .eql (.t 59) (.t 65)⟩,
  .op 48 ⟨some 67, none, .pick (.t 56) (.t 66) (.c (.bool false))⟩,
  .op 49 ⟨some 4, none, .mov (.t 67)⟩])
  (.ret)
def c1_pianolalaw15_same : C :=
 .seq (.ops [⟨some 10, none, .mov (.t 0)⟩,
  ⟨some 11, none, .call n_bus_Bus_Next [(.t 10)]⟩,
  ⟨some 9, none, .mov (.t 11)⟩,
  ⟨some 12, none, .ext (.t 9) 0⟩,
  ⟨some 13, none, .ext (.t 9) 1⟩,
  ⟨some 5, none, .mov (.t 12)⟩,
  ⟨some 6, none, .mov (.t 13)⟩])
  (.seq (.ops [⟨some 15, none, .mov (.t 1)⟩,
  ⟨some 16, none, .call n_pianolaref15_Bus_Next [(.t 15)]⟩,
  ⟨some 14, none, .mov (.t 16)⟩,
  ⟨some 17, none, .ext (.t 14) 0⟩,
  ⟨some 18, none, .ext (.t 14) 1⟩,
  ⟨some 7, none, .mov (.t 17)⟩,
  ⟨some 8, none, .mov (.t 18)⟩])
  (c0_pianolalaw15_same))
def c_pianolalaw15_same : C :=
 .seq (.ops [⟨some 4, none, .mov (.c (.bool false))⟩])
  (c1_pianolalaw15_same)
def f_pianolalaw15_same : F := ⟨c_pianolalaw15_same, [.t 4], some []⟩
theorem h_pianolalaw15_same : compF Tryz.prog (compAny Tryz.prog) n_pianolalaw15_same = some (f_pianolalaw15_same.body, f_pianolalaw15_same.res) := by kernel_rfl
def c0_bus_Bus_Fire : C :=
 .seq (.seq (.ops [⟨some 19, none, .mov (.t 7)⟩,
  ⟨some 20, none, .un .not (.t 19)⟩])
  (.cond (.t 20)
  (.exit 0)
  (.skip)))
  (.seq (.ops [⟨some 21, none, .mov (.t 0)⟩,
  ⟨some 22, none, .ldn 3 (.t 6)⟩,
  ⟨some 23, none, .call n_bus_Bus_fire [(.t 21), (.t 22)]⟩])
  (.ops [⟨some 24, none, .mov (.t 5)⟩,
  ⟨some 25, none, .bin .add (.t 24) (.c (.int .i64 1))⟩,
  ⟨some 5, none, .mov (.t 25)⟩]))
def c1_bus_Bus_Fire : C :=
 .block 1
  (.seq (.ops [⟨some 11, none, .mov (.t 0)⟩,
  ⟨some 12, none, .nilc (.t 11)⟩,
  ⟨some 13, none, .fa 1 (.t 12)⟩,
  ⟨some 14, none, .ld (.t 13)⟩,
  ⟨some 15, none, .mov (.t 1)⟩,
  ⟨some 16, none, .call n_wheel_Wheel_Take [(.t 14), (.t 15)]⟩,
  ⟨some 10, none, .mov (.t 16)⟩,
  ⟨some 17, none, .ext (.t 10) 0⟩,
  ⟨some 18, none, .ext (.t 10) 1⟩,
  ⟨some 6, none, .new [(.int .i64 0), (.int .i64 0), (.int .i64 0)]⟩,
  ⟨none, none, .stn 3 (.t 6) (.t 17)⟩,
  ⟨some 7, none, .mov (.t 18)⟩])
  (c0_bus_Bus_Fire))
def c2_bus_Bus_Fire : C :=
 .seq (.seq (.ops [⟨some 8, none, .mov (.t 5)⟩,
  ⟨some 9, none, .bin .lss (.t 8) (.c (.int .i64 256))⟩])
  (.cond (.t 9)
  (.skip)
  (.exit 0)))
  (c1_bus_Bus_Fire)
def c_bus_Bus_Fire : C :=
 .seq (.ops [⟨some 4, none, .mov (.c (.int .i64 0))⟩])
  (.seq (.ops [⟨some 5, none, .mov (.c (.int .i64 0))⟩])
  (.seq (.skip)
  (.seq (.block 0
  (.loop c2_bus_Bus_Fire))
  (.seq (.ops [⟨some 26, none, .mov (.t 0)⟩,
  ⟨some 27, none, .call n_bus_Bus_gather [(.t 26)]⟩])
  (.seq (.ops [⟨some 28, none, .mov (.t 5)⟩,
  ⟨some 4, none, .mov (.t 28)⟩])
  (.ret))))))
def f_bus_Bus_Fire : F := ⟨c_bus_Bus_Fire, [.t 4], some []⟩
theorem h_bus_Bus_Fire : compF Tryz.prog (compAny Tryz.prog) n_bus_Bus_Fire = some (f_bus_Bus_Fire.body, f_bus_Bus_Fire.res) := by kernel_rfl
def c0_pianolaref15_Bus_Fire : C :=
 .seq (.seq (.ops [⟨some 18, none, .mov (.t 7)⟩,
  ⟨some 19, none, .un .not (.t 18)⟩])
  (.cond (.t 19)
  (.exit 0)
  (.skip)))
  (.seq (.ops [⟨some 20, none, .mov (.t 0)⟩,
  ⟨some 21, none, .ldn 3 (.t 6)⟩,
  ⟨some 22, none, .call n_pianolaref15_Bus_B1 [(.t 20), (.t 21)]⟩])
  (.ops [⟨some 23, none, .mov (.t 5)⟩,
  ⟨some 24, none, .bin .add (.t 23) (.c (.int .i64 1))⟩,
  ⟨some 5, none, .mov (.t 24)⟩]))
def c1_pianolaref15_Bus_Fire : C :=
 .block 1
  (.seq (.ops [⟨some 11, none, .mov (.t 0)⟩,
  ⟨some 12, none, .nilc (.t 11)⟩,
  ⟨some 13, none, .fa 1 (.t 12)⟩,
  ⟨some 14, none, .mov (.t 1)⟩,
  ⟨some 15, none, .call n_pianolaref9_Wheel_Take [(.t 13), (.t 14)]⟩,
  ⟨some 10, none, .mov (.t 15)⟩,
  ⟨some 16, none, .ext (.t 10) 0⟩,
  ⟨some 17, none, .ext (.t 10) 1⟩,
  ⟨some 6, none, .new [(.int .i64 0), (.int .i64 0), (.int .i64 0)]⟩,
  ⟨none, none, .stn 3 (.t 6) (.t 16)⟩,
  ⟨some 7, none, .mov (.t 17)⟩])
  (c0_pianolaref15_Bus_Fire))
def c2_pianolaref15_Bus_Fire : C :=
 .seq (.seq (.ops [⟨some 8, none, .mov (.t 5)⟩,
  ⟨some 9, none, .bin .lss (.t 8) (.c (.int .i64 256))⟩])
  (.cond (.t 9)
  (.skip)
  (.exit 0)))
  (c1_pianolaref15_Bus_Fire)
def c_pianolaref15_Bus_Fire : C :=
 .seq (.ops [⟨some 4, none, .mov (.c (.int .i64 0))⟩])
  (.seq (.ops [⟨some 5, none, .mov (.c (.int .i64 0))⟩])
  (.seq (.block 0
  (.loop c2_pianolaref15_Bus_Fire))
  (.seq (.ops [⟨some 25, none, .mov (.t 0)⟩,
  ⟨some 26, none, .call n_pianolaref15_Bus_gather [(.t 25)]⟩])
  (.seq (.ops [⟨some 27, none, .mov (.t 5)⟩,
  ⟨some 4, none, .mov (.t 27)⟩])
  (.ret)))))
def f_pianolaref15_Bus_Fire : F := ⟨c_pianolaref15_Bus_Fire, [.t 4], some []⟩
theorem h_pianolaref15_Bus_Fire : compF Tryz.prog (compAny Tryz.prog) n_pianolaref15_Bus_Fire = some (f_pianolaref15_Bus_Fire.body, f_pianolaref15_Bus_Fire.res) := by kernel_rfl
def c0_pianolalaw15_known : C :=
 .seq (.ops [⟨some 27, none, .mov (.t 2)⟩,
  ⟨some 28, none, .bin .eql (.t 27) (.c (.int .u32 16909060))⟩,
  ⟨some 29, none, .mov (.t 28)⟩,
  ⟨some 30, some (29, true), .mov (.t 3)⟩,
  ⟨some 31, none, .pick (.t 29) (.t 30) (.c (.bool false))⟩,
  ⟨some 32, none, .mov (.t 31)⟩,
  ⟨some 33, some (32, true), .mov (.t 4)⟩,
  ⟨some 34, some (32, true), .bin .eql (.t 33) (.c (.int .u32 0))⟩,
  ⟨some 35, none, .pick (.t 32) (.t 34) (.c (.bool false))⟩,
  ⟨some 36, none, .mov (.t 35)⟩,
  ⟨some 37, some (36, true), .mov (.t 5)⟩,
  ⟨some 38, none, .pick (.t 36) (.t 37) (.c (.bool false))⟩,
  ⟨some 39, none, .mov (.t 38)⟩,
  ⟨some 40, some (39, true), .mov (.t 7)⟩,
  ⟨some 41, some (39, true), .un .not (.t 40)⟩,
  ⟨some 42, none, .pick (.t 39) (.t 41) (.c (.bool false))⟩,
  ⟨some 43, none, .mov (.t 42)⟩,
  ⟨some 44, some (43, true), .mov (.t 1)⟩,
  ⟨some 45, some (43, true), .call n_bus_Bus_Store [(.t 44), (.c (.int .u32 4294967292)), (.c (.int .i64 4)), (.c (.int .u32 1)), (.c (.int .i64 0))]⟩,
  ⟨some 46, some (43, true), .un .not (.t 45)⟩,
  ⟨some 47, none, .pick (.t 43) (.t 46) (.c (.bool false))⟩,
  ⟨some 48, none, .mov (.t 47)⟩,
  ⟨some 49, some (48, true), .mov (.t 1)⟩,
  ⟨some 50, some (48, true), .call n_bus_Bus_Ram [(.t 49)]⟩,
  ⟨some 51, some (48, true), .eqn 0 true (.t 50)⟩,
  ⟨some 52, none, .pick (.t 48) (.t 51) (.c (.bool false))⟩,
  ⟨some 53, none, .mov (.t 52)⟩,
  ⟨some 54, some (53, true), .mov (.t 1)⟩,
  ⟨some 55, some (53, true), .call n_bus_Bus_Ram [(.t 54)]⟩,
  ⟨some 56, some (53, true), .call n_ram_Ram_Size [(.t 55)]⟩,
  ⟨some 57, some (53, true), .bin .eql (.t 56) (.c (.int .u32 1024))⟩,
  ⟨some 58, none, .pick (.t 53) (.t 57) (.c (.bool false))⟩,
  ⟨some 0, none, .mov (.t 58)⟩])
  (.ret)
def c1_pianolalaw15_known : C :=
 .seq (.ops [⟨some 23, none, .mov (.t 1)⟩,
  ⟨some 24, none, .call n_bus_Bus_Load [(.t 23), (.c (.int .u32 520093697)), (.c (.int .i64 1)), (.c (.int .i64 0))]⟩,
  ⟨some 22, none, .mov (.t 24)⟩,
  ⟨some 25, none, .ext (.t 22) 0⟩,
  ⟨some 26, none, .ext (.t 22) 1⟩,
  ⟨some 6, none, .mov (.t 25)⟩,
  ⟨some 7, none, .mov (.t 26)⟩])
  (c0_pianolalaw15_known)
def c2_pianolalaw15_known : C :=
 .seq (.ops [⟨some 18, none, .mov (.t 1)⟩,
  ⟨some 19, none, .call n_bus_Bus_Load [(.t 18), (.c (.int .u32 520093696)), (.c (.int .i64 4)), (.c (.int .i64 0))]⟩,
  ⟨some 17, none, .mov (.t 19)⟩,
  ⟨some 20, none, .ext (.t 17) 0⟩,
  ⟨some 21, none, .ext (.t 17) 1⟩,
  ⟨some 4, none, .mov (.t 20)⟩,
  ⟨some 5, none, .mov (.t 21)⟩])
  (c1_pianolalaw15_known)
def c3_pianolalaw15_known : C :=
 .seq (.ops [⟨some 13, none, .mov (.t 1)⟩,
  ⟨some 14, none, .call n_bus_Bus_Load [(.t 13), (.c (.int .u32 0)), (.c (.int .i64 4)), (.c (.int .i64 0))]⟩,
  ⟨some 12, none, .mov (.t 14)⟩,
  ⟨some 15, none, .ext (.t 12) 0⟩,
  ⟨some 16, none, .ext (.t 12) 1⟩,
  ⟨some 2, none, .mov (.t 15)⟩,
  ⟨some 3, none, .mov (.t 16)⟩])
  (c2_pianolalaw15_known)
def c4_pianolalaw15_known : C :=
 .seq (.ops [⟨some 8, none, .bsl 4 [(.int .u8 0), (.int .u8 0), (.int .u8 0), (.int .u8 0)] [(0, 1, (.c (.int .u8 1))), (1, 1, (.c (.int .u8 2))), (2, 1, (.c (.int .u8 3))), (3, 1, (.c (.int .u8 4)))]⟩,
  ⟨some 9, none, .call n_bus_New [(.c (.int .i64 1)), (.t 8), (.c (.slice none 0 0))]⟩,
  ⟨some 1, none, .mov (.t 9)⟩])
  (.seq (.seq (.ops [⟨some 10, none, .mov (.t 1)⟩,
  ⟨some 11, none, .eqn 0 false (.t 10)⟩])
  (.cond (.t 11)
  (.seq (.ops [⟨some 0, none, .mov (.c (.bool false))⟩])
  (.ret))
  (.skip)))
  (c3_pianolalaw15_known))
def c_pianolalaw15_known : C :=
 .seq (.ops [⟨some 0, none, .mov (.c (.bool false))⟩])
  (c4_pianolalaw15_known)
def f_pianolalaw15_known : F := ⟨c_pianolalaw15_known, [.t 0], some []⟩
theorem h_pianolalaw15_known : compF Tryz.prog (compAny Tryz.prog) n_pianolalaw15_known = some (f_pianolalaw15_known.body, f_pianolalaw15_known.res) := by kernel_rfl
def c0_ram_New : C :=
 .seq (.any 4 [.op 0 ⟨some 7, none, .mov (.t 3)⟩,
  .op 1 ⟨some 8, none, .bin .mul (.t 7) (.c (.int .i64 1024))⟩,
  .al 2 0 ⟨some 9, none, .mks [(.int .u8 0)] 1 (.t 8) (.t 8)⟩,
  .op 3 ⟨some 10, none, .mov (.t 3)⟩,
  .al 4 1 ⟨some 11, none, .mks [(.bool false)] 1 (.t 10) (.t 10)⟩,
  .op 5 ⟨some 12, none, .mov (.t 3)⟩,
  .al 6 2 ⟨some 13, none, .mks [(.bool false)] 1 (.t 12) (.t 12)⟩,
  .op 7 ⟨some 14, none, .build [(.slice none 0 0), (.slice none 0 0), (.slice none 0 0)] [(0, 1, (.t 9)), (1, 1, (.t 11)), (2, 1, (.t 13))]⟩,
  .al 8 3 ⟨some 15, none, .box (.t 14)⟩,
  .op 9 ⟨some 2, none, .mov (.t 15)⟩])
  (.ret)
def c_ram_New : C :=
 .seq (.ops [⟨some 2, none, .mov (.c (.pointer none))⟩])
  (.seq (.ops [⟨some 4, none, .mov (.t 0)⟩,
  ⟨some 5, none, .mn (.t 4) (.c (.int .i64 64))⟩,
  ⟨some 6, none, .mx (.c (.int .i64 1)) (.t 5)⟩,
  ⟨some 3, none, .mov (.t 6)⟩])
  (c0_ram_New))
def f_ram_New : F := ⟨c_ram_New, [.t 2], some []⟩
theorem h_ram_New : compF Tryz.prog (compAny Tryz.prog) n_ram_New = some (f_ram_New.body, f_ram_New.res) := by kernel_rfl
def c_wheel_New : C :=
 .seq (.ops [⟨some 0, none, .mov (.c (.pointer none))⟩])
  (.seq (.ops [⟨some 1, none, .build [(.slice none 0 0), (.int .i64 0)] []⟩,
  ⟨some 2, none, .box (.t 1)⟩,
  ⟨some 0, none, .mov (.t 2)⟩])
  (.ret))
def f_wheel_New : F := ⟨c_wheel_New, [.t 0], some []⟩
theorem h_wheel_New : compF Tryz.prog (compAny Tryz.prog) n_wheel_New = some (f_wheel_New.body, f_wheel_New.res) := by kernel_rfl
def c0_ram_Ram_Put : C :=
 .seq (.ops [⟨some 13, none, .mov (.t 0)⟩,
  ⟨some 14, none, .nilc (.t 13)⟩,
  ⟨some 15, none, .fa 0 (.t 14)⟩,
  ⟨some 16, none, .ld (.t 15)⟩,
  ⟨some 17, none, .mov (.t 1)⟩,
  ⟨some 18, none, .sl 1 (.t 16) (some (.t 17)) none none⟩,
  ⟨some 19, none, .mov (.t 2)⟩,
  ⟨some 20, none, .cpy 1 (.t 18) (.t 19)⟩])
  (.seq (.ops [⟨some 21, none, .mov (.t 0)⟩,
  ⟨some 22, none, .mov (.t 1)⟩,
  ⟨some 23, none, .mov (.t 2)⟩,
  ⟨some 24, none, .len 1 (.t 23)⟩,
  ⟨some 25, none, .call n_ram_Ram_touch [(.t 21), (.t 22), (.t 24)]⟩])
  (.seq (.ops [⟨some 6, none, .mov (.c (.bool true))⟩])
  (.ret)))
def c1_ram_Ram_Put : C :=
 .seq (.seq (.ops [⟨some 7, none, .mov (.t 0)⟩,
  ⟨some 8, none, .mov (.t 1)⟩,
  ⟨some 9, none, .mov (.t 2)⟩,
  ⟨some 10, none, .len 1 (.t 9)⟩,
  ⟨some 11, none, .call n_ram_Ram_there [(.t 7), (.t 8), (.t 10)]⟩,
  ⟨some 12, none, .un .not (.t 11)⟩])
  (.cond (.t 12)
  (.seq (.ops [⟨some 6, none, .mov (.c (.bool false))⟩])
  (.ret))
  (.skip)))
  (c0_ram_Ram_Put)
def c_ram_Ram_Put : C :=
 .seq (.ops [⟨some 6, none, .mov (.c (.bool false))⟩])
  (c1_ram_Ram_Put)
def f_ram_Ram_Put : F := ⟨c_ram_Ram_Put, [.t 6], some []⟩
theorem h_ram_Ram_Put : compF Tryz.prog (compAny Tryz.prog) n_ram_Ram_Put = some (f_ram_Ram_Put.body, f_ram_Ram_Put.res) := by kernel_rfl
def c_ram_Ram_Size : C :=
 .seq (.ops [⟨some 2, none, .mov (.c (.int .u32 0))⟩])
  (.seq (.ops [⟨some 3, none, .mov (.t 0)⟩,
  ⟨some 4, none, .nilc (.t 3)⟩,
  ⟨some 5, none, .fa 0 (.t 4)⟩,
  ⟨some 6, none, .ld (.t 5)⟩,
  ⟨some 7, none, .len 1 (.t 6)⟩,
  ⟨some 8, none, .conv .u32 (.t 7)⟩,
  ⟨some 2, none, .mov (.t 8)⟩])
  (.ret))
def f_ram_Ram_Size : F := ⟨c_ram_Ram_Size, [.t 2], some []⟩
theorem h_ram_Ram_Size : compF Tryz.prog (compAny Tryz.prog) n_ram_Ram_Size = some (f_ram_Ram_Size.body, f_ram_Ram_Size.res) := by kernel_rfl
def c_lines_New : C :=
 .seq (.ops [⟨some 0, none, .mov (.c (.pointer none))⟩])
  (.seq (.ops [⟨some 1, none, .build [(.int .u32 0), (.int .u32 0)] []⟩,
  ⟨some 2, none, .box (.t 1)⟩,
  ⟨some 0, none, .mov (.t 2)⟩])
  (.ret))
def f_lines_New : F := ⟨c_lines_New, [.t 0], some []⟩
theorem h_lines_New : compF Tryz.prog (compAny Tryz.prog) n_lines_New = some (f_lines_New.body, f_lines_New.res) := by kernel_rfl
def c0_timer_New : C :=
 .seq (.seq (.ops [⟨some 5, none, .mov (.t 1)⟩,
  ⟨some 6, none, .eqn 0 false (.t 5)⟩])
  (.cond (.t 6)
  (.seq (.ops [⟨some 4, none, .mov (.c (.pointer none))⟩])
  (.ret))
  (.skip)))
  (.seq (.ops [⟨some 7, none, .mov (.t 0)⟩,
  ⟨some 8, none, .mov (.t 1)⟩,
  ⟨some 9, none, .build [(.int .i64 0), (.pointer none), (.int .u32 0), (.int .u32 0), (.int .u32 0)] [(0, 1, (.t 7)), (1, 1, (.t 8))]⟩,
  ⟨some 10, none, .box (.t 9)⟩,
  ⟨some 4, none, .mov (.t 10)⟩])
  (.ret))
def c_timer_New : C :=
 .seq (.ops [⟨some 4, none, .mov (.c (.pointer none))⟩])
  (c0_timer_New)
def f_timer_New : F := ⟨c_timer_New, [.t 4], some []⟩
theorem h_timer_New : compF Tryz.prog (compAny Tryz.prog) n_timer_New = some (f_timer_New.body, f_timer_New.res) := by kernel_rfl
def c0_uart_New : C :=
 .seq (.any 3 [.op 0 ⟨some 7, none, .mov (.t 0)⟩,
  .op 1 ⟨some 8, none, .mov (.t 1)⟩,
  .al 2 0 ⟨some 9, none, .mkc 1 (.c (.int .i64 16))⟩,
  .al 3 1 ⟨some 10, none, .mkc 1 (.c (.int .i64 16))⟩,
  .op 4 ⟨some 11, none, .build [(.int .i64 0), (.pointer none), (.chan none), (.chan none), (.bool false), (.int .u32 0), (.slice none 0 0)] [(0, 1, (.t 7)), (1, 1, (.t 8)), (2, 1, (.t 9)), (3, 1, (.t 10))]⟩,
  .al 5 2 ⟨some 12, none, .box (.t 11)⟩,
  .op 6 ⟨some 4, none, .mov (.t 12)⟩])
  (.ret)
def c_uart_New : C :=
 .seq (.ops [⟨some 4, none, .mov (.c (.pointer none))⟩])
  (.seq (.seq (.ops [⟨some 5, none, .mov (.t 1)⟩,
  ⟨some 6, none, .eqn 0 false (.t 5)⟩])
  (.cond (.t 6)
  (.seq (.ops [⟨some 4, none, .mov (.c (.pointer none))⟩])
  (.ret))
  (.skip)))
  (c0_uart_New))
def f_uart_New : F := ⟨c_uart_New, [.t 4], some []⟩
theorem h_uart_New : compF Tryz.prog (compAny Tryz.prog) n_uart_New = some (f_uart_New.body, f_uart_New.res) := by kernel_rfl
def c0_dma_New : C :=
 .seq (.ops [⟨some 13, none, .mov (.t 0)⟩,
  ⟨some 14, none, .mov (.t 1)⟩,
  ⟨some 15, none, .mov (.t 2)⟩,
  ⟨some 16, none, .build [(.int .i64 0), (.pointer none), (.pointer none), (.int .u32 0), (.int .u32 0), (.int .u32 0), (.int .u32 0)] [(0, 1, (.t 13)), (1, 1, (.t 14)), (2, 1, (.t 15))]⟩,
  ⟨some 17, none, .box (.t 16)⟩,
  ⟨some 6, none, .mov (.t 17)⟩])
  (.ret)
def c1_dma_New : C :=
 .seq (.seq (.ops [⟨some 7, none, .mov (.t 1)⟩,
  ⟨some 8, none, .eqn 0 false (.t 7)⟩,
  ⟨some 9, none, .mov (.t 8)⟩,
  ⟨some 10, some (9, false), .mov (.t 2)⟩,
  ⟨some 11, some (9, false), .eqn 0 false (.t 10)⟩,
  ⟨some 12, none, .pick (.t 9) (.c (.bool true)) (.t 11)⟩])
  (.cond (.t 12)
  (.seq (.ops [⟨some 6, none, .mov (.c (.pointer none))⟩])
  (.ret))
  (.skip)))
  (c0_dma_New)
def c_dma_New : C :=
 .seq (.ops [⟨some 6, none, .mov (.c (.pointer none))⟩])
  (c1_dma_New)
def f_dma_New : F := ⟨c_dma_New, [.t 6], some []⟩
theorem h_dma_New : compF Tryz.prog (compAny Tryz.prog) n_dma_New = some (f_dma_New.body, f_dma_New.res) := by kernel_rfl
def c0_disk_New : C :=
 .seq (.ops [⟨some 29, none, .mov (.t 0)⟩,
  ⟨some 30, none, .mov (.t 1)⟩,
  ⟨some 31, none, .mov (.t 2)⟩,
  ⟨some 32, none, .mov (.t 10)⟩,
  ⟨some 33, none, .build [(.int .i64 0), (.pointer none), (.pointer none), (.slice none 0 0), (.int .u32 0), (.int .u32 0), (.int .u32 0), (.int .u32 0)] [(0, 1, (.t 29)), (1, 1, (.t 30)), (2, 1, (.t 31)), (3, 1, (.t 32))]⟩,
  ⟨some 34, none, .box (.t 33)⟩,
  ⟨some 8, none, .mov (.t 34)⟩])
  (.ret)
def c1_disk_New : C :=
 .seq (.ops [⟨some 23, none, .mov (.t 9)⟩,
  ⟨some 24, none, .bin .mul (.t 23) (.c (.int .i64 64))⟩,
  ⟨some 25, none, .mks [(.int .u8 0)] 1 (.t 24) (.t 24)⟩,
  ⟨some 10, none, .mov (.t 25)⟩])
  (.seq (.ops [⟨some 26, none, .mov (.t 10)⟩,
  ⟨some 27, none, .mov (.t 3)⟩,
  ⟨some 28, none, .cpy 1 (.t 26) (.t 27)⟩])
  (c0_disk_New))
def c2_disk_New : C :=
 .seq (.ops [⟨some 17, none, .mov (.t 3)⟩,
  ⟨some 18, none, .len 1 (.t 17)⟩,
  ⟨some 19, none, .bin .add (.t 18) (.c (.int .i64 64))⟩,
  ⟨some 20, none, .bin .sub (.t 19) (.c (.int .i64 1))⟩,
  ⟨some 21, none, .bin .quo (.t 20) (.c (.int .i64 64))⟩,
  ⟨some 22, none, .mn (.t 21) (.c (.int .i64 64))⟩,
  ⟨some 9, none, .mov (.t 22)⟩])
  (c1_disk_New)
def c3_disk_New : C :=
 .seq (.seq (.ops [⟨some 11, none, .mov (.t 1)⟩,
  ⟨some 12, none, .eqn 0 false (.t 11)⟩,
  ⟨some 13, none, .mov (.t 12)⟩,
  ⟨some 14, some (13, false), .mov (.t 2)⟩,
  ⟨some 15, some (13, false), .eqn 0 false (.t 14)⟩,
  ⟨some 16, none, .pick (.t 13) (.c (.bool true)) (.t 15)⟩])
  (.cond (.t 16)
  (.seq (.ops [⟨some 8, none, .mov (.c (.pointer none))⟩])
  (.ret))
  (.skip)))
  (c2_disk_New)
def c_disk_New : C :=
 .seq (.ops [⟨some 8, none, .mov (.c (.pointer none))⟩])
  (c3_disk_New)
def f_disk_New : F := ⟨c_disk_New, [.t 8], some []⟩
theorem h_disk_New : compF Tryz.prog (compAny Tryz.prog) n_disk_New = some (f_disk_New.body, f_disk_New.res) := by kernel_rfl
def c0_pianolaref2_New : C :=
 .seq (.any 4 [.op 0 ⟨some 7, none, .mov (.t 3)⟩,
  .op 1 ⟨some 8, none, .bin .mul (.t 7) (.c (.int .i64 1024))⟩,
  .al 2 0 ⟨some 9, none, .mks [(.int .u8 0)] 1 (.t 8) (.t 8)⟩,
  .op 3 ⟨some 10, none, .mov (.t 3)⟩,
  .al 4 1 ⟨some 11, none, .mks [(.bool false)] 1 (.t 10) (.t 10)⟩,
  .op 5 ⟨some 12, none, .mov (.t 3)⟩,
  .al 6 2 ⟨some 13, none, .mks [(.bool false)] 1 (.t 12) (.t 12)⟩,
  .op 7 ⟨some 14, none, .build [(.slice none 0 0), (.slice none 0 0), (.slice none 0 0)] [(0, 1, (.t 9)), (1, 1, (.t 11)), (2, 1, (.t 13))]⟩,
  .al 8 3 ⟨some 15, none, .box (.t 14)⟩,
  .op 9 ⟨some 2, none, .mov (.t 15)⟩])
  (.ret)
def c_pianolaref2_New : C :=
 .seq (.ops [⟨some 2, none, .mov (.c (.pointer none))⟩])
  (.seq (.ops [⟨some 4, none, .mov (.t 0)⟩,
  ⟨some 5, none, .mn (.t 4) (.c (.int .i64 64))⟩,
  ⟨some 6, none, .mx (.t 5) (.c (.int .i64 1))⟩,
  ⟨some 3, none, .mov (.t 6)⟩])
  (c0_pianolaref2_New))
def f_pianolaref2_New : F := ⟨c_pianolaref2_New, [.t 2], some []⟩
theorem h_pianolaref2_New : compF Tryz.prog (compAny Tryz.prog) n_pianolaref2_New = some (f_pianolaref2_New.body, f_pianolaref2_New.res) := by kernel_rfl
def c0_ram_Ram_Load : C :=
 .seq (.block 1
  (.seq (.ops [⟨some 29, none, .ia 1 (.t 25) (.t 27)⟩,
  ⟨some 30, none, .ld (.t 29)⟩,
  ⟨some 10, none, .mov (.t 30)⟩])
  (.ops [⟨some 31, none, .mov (.t 8)⟩,
  ⟨some 32, none, .bin .shl (.t 31) (.c (.int .u64 8))⟩,
  ⟨some 33, none, .mov (.t 10)⟩,
  ⟨some 34, none, .conv .u32 (.t 33)⟩,
  ⟨some 35, none, .bin .or (.t 32) (.t 34)⟩,
  ⟨some 8, none, .mov (.t 35)⟩])))
  (.ops [⟨some 36, none, .bin .add (.t 27) (.c (.int .i64 1))⟩,
  ⟨some 27, none, .mov (.t 36)⟩])
def c1_ram_Ram_Load : C :=
 .seq (.ops [⟨some 28, none, .bin .lss (.t 27) (.t 26)⟩])
  (.seq (.cond (.t 28)
  (.skip)
  (.exit 0))
  (c0_ram_Ram_Load))
def c2_ram_Ram_Load : C :=
 .seq (.seq (.ops [⟨some 16, none, .mov (.t 0)⟩,
  ⟨some 17, none, .nilc (.t 16)⟩,
  ⟨some 18, none, .fa 0 (.t 17)⟩,
  ⟨some 19, none, .ld (.t 18)⟩,
  ⟨some 20, none, .mov (.t 1)⟩,
  ⟨some 21, none, .mov (.t 1)⟩,
  ⟨some 22, none, .conv .i64 (.t 21)⟩,
  ⟨some 23, none, .mov (.t 2)⟩,
  ⟨some 24, none, .bin .add (.t 22) (.t 23)⟩,
  ⟨some 25, none, .sl 1 (.t 19) (some (.t 20)) (some (.t 24)) none⟩,
  ⟨some 26, none, .len 1 (.t 25)⟩,
  ⟨some 27, none, .mov (.c (.int .i64 0))⟩])
  (.block 0
  (.loop c1_ram_Ram_Load)))
  (.seq (.ops [⟨some 37, none, .mov (.t 8)⟩,
  ⟨some 6, none, .mov (.t 37)⟩,
  ⟨some 7, none, .mov (.c (.bool true))⟩])
  (.ret))
def c3_ram_Ram_Load : C :=
 .seq (.seq (.ops [⟨some 11, none, .mov (.t 0)⟩,
  ⟨some 12, none, .mov (.t 1)⟩,
  ⟨some 13, none, .mov (.t 2)⟩,
  ⟨some 14, none, .call n_ram_Ram_even [(.t 11), (.t 12), (.t 13)]⟩,
  ⟨some 15, none, .un .not (.t 14)⟩])
  (.cond (.t 15)
  (.seq (.ops [⟨some 6, none, .mov (.c (.int .u32 0))⟩,
  ⟨some 7, none, .mov (.c (.bool false))⟩])
  (.ret))
  (.skip)))
  (.seq (.ops [⟨some 8, none, .mov (.c (.int .u32 0))⟩])
  (c2_ram_Ram_Load))
def c_ram_Ram_Load : C :=
 .seq (.ops [⟨some 6, none, .mov (.c (.int .u32 0))⟩,
  ⟨some 7, none, .mov (.c (.bool false))⟩])
  (c3_ram_Ram_Load)
def f_ram_Ram_Load : F := ⟨c_ram_Ram_Load, [.t 6, .t 7], some []⟩
theorem h_ram_Ram_Load : compF Tryz.prog (compAny Tryz.prog) n_ram_Ram_Load = some (f_ram_Ram_Load.body, f_ram_Ram_Load.res) := by kernel_rfl
def c0_bus_window : C :=
 .seq (.ops [⟨some 22, none, .mov (.t 7)⟩,
  ⟨some 23, none, .conv .i64 (.t 22)⟩,
  ⟨some 24, none, .mov (.t 0)⟩,
  ⟨some 25, none, .bin .sub (.t 24) (.c (.int .u32 520093696))⟩,
  ⟨some 26, none, .bin .rem (.t 25) (.c (.int .u32 64))⟩,
  ⟨some 27, none, .mov (.t 7)⟩,
  ⟨some 28, none, .bin .leq (.t 27) (.c (.int .u32 5))⟩,
  ⟨some 4, none, .mov (.t 23)⟩,
  ⟨some 5, none, .mov (.t 26)⟩,
  ⟨some 6, none, .mov (.t 28)⟩])
  (.ret)
def c1_bus_window : C :=
 .seq (.seq (.ops [⟨some 8, none, .mov (.t 1)⟩,
  ⟨some 9, none, .bin .neq (.t 8) (.c (.int .i64 4))⟩,
  ⟨some 10, none, .mov (.t 9)⟩,
  ⟨some 11, some (10, false), .mov (.t 0)⟩,
  ⟨some 12, some (10, false), .bin .lss (.t 11) (.c (.int .u32 520093696))⟩,
  ⟨some 13, none, .pick (.t 10) (.c (.bool true)) (.t 12)⟩,
  ⟨some 14, none, .mov (.t 13)⟩,
  ⟨some 15, some (14, false), .mov (.t 0)⟩,
  ⟨some 16, some (14, false), .bin .rem (.t 15) (.c (.int .u32 4))⟩,
  ⟨some 17, some (14, false), .bin .neq (.t 16) (.c (.int .u32 0))⟩,
  ⟨some 18, none, .pick (.t 14) (.c (.bool true)) (.t 17)⟩])
  (.cond (.t 18)
  (.seq (.ops [⟨some 4, none, .mov (.c (.int .i64 0))⟩,
  ⟨some 5, none, .mov (.c (.int .u32 0))⟩,
  ⟨some 6, none, .mov (.c (.bool false))⟩])
  (.ret))
  (.skip)))
  (.seq (.ops [⟨some 19, none, .mov (.t 0)⟩,
  ⟨some 20, none, .bin .sub (.t 19) (.c (.int .u32 520093696))⟩,
  ⟨some 21, none, .bin .quo (.t 20) (.c (.int .u32 64))⟩,
  ⟨some 7, none, .mov (.t 21)⟩])
  (c0_bus_window))
def c_bus_window : C :=
 .seq (.ops [⟨some 4, none, .mov (.c (.int .i64 0))⟩,
  ⟨some 5, none, .mov (.c (.int .u32 0))⟩,
  ⟨some 6, none, .mov (.c (.bool false))⟩])
  (c1_bus_window)
def f_bus_window : F := ⟨c_bus_window, [.t 4, .t 5, .t 6], some []⟩
theorem h_bus_window : compF Tryz.prog (compAny Tryz.prog) n_bus_window = some (f_bus_window.body, f_bus_window.res) := by kernel_rfl
def c0_bus_Bus_read : C :=
 .seq (.ops [⟨some 13, none, .mov (.t 0)⟩,
  ⟨some 14, none, .nilc (.t 13)⟩,
  ⟨some 15, none, .fa 2 (.t 14)⟩,
  ⟨some 16, none, .ld (.t 15)⟩,
  ⟨some 17, none, .mov (.t 2)⟩,
  ⟨some 18, none, .mov (.t 3)⟩,
  ⟨some 19, none, .call n_lines_Lines_Read [(.t 16), (.t 17), (.t 18)]⟩,
  ⟨some 20, none, .ext (.t 19) 0⟩,
  ⟨some 21, none, .ext (.t 19) 1⟩,
  ⟨some 8, none, .mov (.t 20)⟩,
  ⟨some 9, none, .mov (.t 21)⟩])
  (.ret)
def c1_bus_Bus_read : C :=
 .seq (.ops [⟨some 24, none, .mov (.t 0)⟩,
  ⟨some 25, none, .nilc (.t 24)⟩,
  ⟨some 26, none, .fa 3 (.t 25)⟩,
  ⟨some 27, none, .ld (.t 26)⟩,
  ⟨some 28, none, .mov (.t 2)⟩,
  ⟨some 29, none, .call n_timer_Timer_Read [(.t 27), (.t 28)]⟩,
  ⟨some 30, none, .ext (.t 29) 0⟩,
  ⟨some 31, none, .ext (.t 29) 1⟩,
  ⟨some 8, none, .mov (.t 30)⟩,
  ⟨some 9, none, .mov (.t 31)⟩])
  (.ret)
def c2_bus_Bus_read : C :=
 .seq (.ops [⟨some 34, none, .mov (.t 0)⟩,
  ⟨some 35, none, .nilc (.t 34)⟩,
  ⟨some 36, none, .fa 4 (.t 35)⟩,
  ⟨some 37, none, .ld (.t 36)⟩,
  ⟨some 38, none, .mov (.t 2)⟩,
  ⟨some 39, none, .call n_timer_Timer_Read [(.t 37), (.t 38)]⟩,
  ⟨some 40, none, .ext (.t 39) 0⟩,
  ⟨some 41, none, .ext (.t 39) 1⟩,
  ⟨some 8, none, .mov (.t 40)⟩,
  ⟨some 9, none, .mov (.t 41)⟩])
  (.ret)
def c3_bus_Bus_read : C :=
 .seq (.ops [⟨some 44, none, .mov (.t 0)⟩,
  ⟨some 45, none, .nilc (.t 44)⟩,
  ⟨some 46, none, .fa 5 (.t 45)⟩,
  ⟨some 47, none, .ld (.t 46)⟩,
  ⟨some 48, none, .mov (.t 2)⟩,
  ⟨some 49, none, .call n_uart_Uart_Read [(.t 47), (.t 48)]⟩,
  ⟨some 50, none, .ext (.t 49) 0⟩,
  ⟨some 51, none, .ext (.t 49) 1⟩,
  ⟨some 8, none, .mov (.t 50)⟩,
  ⟨some 9, none, .mov (.t 51)⟩])
  (.ret)
def c4_bus_Bus_read : C :=
 .seq (.ops [⟨some 54, none, .mov (.t 0)⟩,
  ⟨some 55, none, .nilc (.t 54)⟩,
  ⟨some 56, none, .fa 6 (.t 55)⟩,
  ⟨some 57, none, .ld (.t 56)⟩,
  ⟨some 58, none, .mov (.t 2)⟩,
  ⟨some 59, none, .call n_dma_Dma_Read [(.t 57), (.t 58)]⟩,
  ⟨some 60, none, .ext (.t 59) 0⟩,
  ⟨some 61, none, .ext (.t 59) 1⟩,
  ⟨some 8, none, .mov (.t 60)⟩,
  ⟨some 9, none, .mov (.t 61)⟩])
  (.ret)
def c5_bus_Bus_read : C :=
 .seq (.ops [⟨some 33, none, .bin .eql (.t 10) (.c (.int .i64 2))⟩,
  ⟨some 32, none, .mov (.t 33)⟩])
  (.cond (.t 32)
  (c2_bus_Bus_read)
  (.seq (.ops [⟨some 43, none, .bin .eql (.t 10) (.c (.int .i64 3))⟩,
  ⟨some 42, none, .mov (.t 43)⟩])
  (.cond (.t 42)
  (c3_bus_Bus_read)
  (.seq (.ops [⟨some 53, none, .bin .eql (.t 10) (.c (.int .i64 4))⟩,
  ⟨some 52, none, .mov (.t 53)⟩])
  (.cond (.t 52)
  (c4_bus_Bus_read)
  (.skip))))))
def c6_bus_Bus_read : C :=
 .seq (.ops [⟨some 62, none, .mov (.t 0)⟩,
  ⟨some 63, none, .nilc (.t 62)⟩,
  ⟨some 64, none, .fa 7 (.t 63)⟩,
  ⟨some 65, none, .ld (.t 64)⟩,
  ⟨some 66, none, .mov (.t 2)⟩,
  ⟨some 67, none, .call n_disk_Disk_Read [(.t 65), (.t 66)]⟩,
  ⟨some 68, none, .ext (.t 67) 0⟩,
  ⟨some 69, none, .ext (.t 67) 1⟩,
  ⟨some 8, none, .mov (.t 68)⟩,
  ⟨some 9, none, .mov (.t 69)⟩])
  (.ret)
def c7_bus_Bus_read : C :=
 .seq (.seq (.ops [⟨some 10, none, .mov (.t 1)⟩])
  (.block 0
  (.seq (.ops [⟨some 12, none, .bin .eql (.t 10) (.c (.int .i64 0))⟩,
  ⟨some 11, none, .mov (.t 12)⟩])
  (.cond (.t 11)
  (c0_bus_Bus_read)
  (.seq (.ops [⟨some 23, none, .bin .eql (.t 10) (.c (.int .i64 1))⟩,
  ⟨some 22, none, .mov (.t 23)⟩])
  (.cond (.t 22)
  (c1_bus_Bus_read)
  (c5_bus_Bus_read)))))))
  (c6_bus_Bus_read)
def c_bus_Bus_read : C :=
 .seq (.ops [⟨some 8, none, .mov (.c (.int .u32 0))⟩,
  ⟨some 9, none, .mov (.c (.bool false))⟩])
  (c7_bus_Bus_read)
def f_bus_Bus_read : F := ⟨c_bus_Bus_read, [.t 8, .t 9], some []⟩
theorem h_bus_Bus_read : compF Tryz.prog (compAny Tryz.prog) n_bus_Bus_read = some (f_bus_Bus_read.body, f_bus_Bus_read.res) := by kernel_rfl
end Go.Proofs.YtpdfdemoflofhaaGreat.Cd

set_option maxRecDepth 100000
set_option linter.defProp false
namespace Go.Proofs.YtpdfdemoflofhaaGreat.Cd
open Go Go.Dx
def c0_bus_Bus_gather : C :=
 .seq (.block 1
  (.any 0 [.op 0 ⟨some 7, none, .mov (.t 0)⟩,
  .op 1 ⟨some 8, none, .nilc (.t 7)⟩,
  .op 2 ⟨some 9, none, .fa 2 (.t 8)⟩,
  .op 3 ⟨some 10, none, .ld (.t 9)⟩,
  .op 5 ⟨some 12, none, .mov (.t 0)⟩,
  .op 6 ⟨some 13, none, .mov (.t 2)⟩,
  .op 7 ⟨some 14, none, .call n_bus_Bus_line [(.t 12), (.t 13)]⟩,
  .re 3 ⟨some 10, none, .ld (.t 9)⟩,
  .op 4 ⟨some 11, none, .mov (.t 2)⟩,
  .op 8 ⟨some 15, none, .call n_lines_Lines_Set [(.t 10), (.t 11), (.t 14)]⟩]))
  (.ops [⟨some 5, none, .mov (.t 2)⟩,
  ⟨some 6, none, .bin .add (.t 5) (.c (.int .i64 1))⟩,
  ⟨some 2, none, .mov (.t 6)⟩])
def c1_bus_Bus_gather : C :=
 .seq (.seq (.ops [⟨some 3, none, .mov (.t 2)⟩,
  ⟨some 4, none, .bin .leq (.t 3) (.c (.int .i64 5))⟩])
  (.cond (.t 4)
  (.skip)
  (.exit 0)))
  (c0_bus_Bus_gather)
def c_bus_Bus_gather : C :=
 .seq (.ops [⟨some 2, none, .mov (.c (.int .i64 1))⟩])
  (.block 0
  (.loop c1_bus_Bus_gather))
def f_bus_Bus_gather : F := ⟨c_bus_Bus_gather, [], some []⟩
theorem h_bus_Bus_gather : compF Tryz.prog (compAny Tryz.prog) n_bus_Bus_gather = some (f_bus_Bus_gather.body, f_bus_Bus_gather.res) := by kernel_rfl
def c0_pianolaref2_Ram_Load : C :=
 .seq (.block 1
  (.ops [⟨some 39, none, .mov (.t 8)⟩,
  ⟨some 40, none, .bin .shl (.t 39) (.c (.int .u64 8))⟩,
  ⟨some 41, none, .mov (.t 0)⟩,
  ⟨some 42, none, .nilc (.t 41)⟩,
  ⟨some 43, none, .fa 0 (.t 42)⟩,
  ⟨some 44, none, .ld (.t 43)⟩,
  ⟨some 45, none, .mov (.t 1)⟩,
  ⟨some 46, none, .conv .i64 (.t 45)⟩,
  ⟨some 47, none, .mov (.t 9)⟩,
  ⟨some 48, none, .bin .add (.t 46) (.t 47)⟩,
  ⟨some 49, none, .ia 1 (.t 44) (.t 48)⟩,
  ⟨some 50, none, .ld (.t 49)⟩,
  ⟨some 51, none, .conv .u32 (.t 50)⟩,
  ⟨some 52, none, .bin .or (.t 40) (.t 51)⟩,
  ⟨some 8, none, .mov (.t 52)⟩]))
  (.ops [⟨some 37, none, .mov (.t 9)⟩,
  ⟨some 38, none, .bin .add (.t 37) (.c (.int .i64 1))⟩,
  ⟨some 9, none, .mov (.t 38)⟩])
def c1_pianolaref2_Ram_Load : C :=
 .seq (.seq (.ops [⟨some 34, none, .mov (.t 9)⟩,
  ⟨some 35, none, .mov (.t 2)⟩,
  ⟨some 36, none, .bin .lss (.t 34) (.t 35)⟩])
  (.cond (.t 36)
  (.skip)
  (.exit 0)))
  (c0_pianolaref2_Ram_Load)
def c2_pianolaref2_Ram_Load : C :=
 .seq (.seq (.ops [⟨some 10, none, .mov (.t 2)⟩,
  ⟨some 11, none, .bin .neq (.t 10) (.c (.int .i64 1))⟩,
  ⟨some 12, none, .mov (.t 11)⟩,
  ⟨some 13, some (12, true), .mov (.t 2)⟩,
  ⟨some 14, some (12, true), .bin .neq (.t 13) (.c (.int .i64 2))⟩,
  ⟨some 15, none, .pick (.t 12) (.t 14) (.c (.bool false))⟩,
  ⟨some 16, none, .mov (.t 15)⟩,
  ⟨some 17, some (16, true), .mov (.t 2)⟩,
  ⟨some 18, some (16, true), .bin .neq (.t 17) (.c (.int .i64 4))⟩,
  ⟨some 19, none, .pick (.t 16) (.t 18) (.c (.bool false))⟩,
  ⟨some 20, none, .mov (.t 19)⟩,
  ⟨some 21, some (20, false), .mov (.t 1)⟩,
  ⟨some 22, some (20, false), .mov (.t 2)⟩,
  ⟨some 23, some (20, false), .conv .u32 (.t 22)⟩,
  ⟨some 24, some (20, false), .bin .rem (.t 21) (.t 23)⟩,
  ⟨some 25, some (20, false), .bin .neq (.t 24) (.c (.int .u32 0))⟩,
  ⟨some 26, none, .pick (.t 20) (.c (.bool true)) (.t 25)⟩,
  ⟨some 27, none, .mov (.t 26)⟩,
  ⟨some 28, some (27, false), .mov (.t 0)⟩,
  ⟨some 29, some (27, false), .mov (.t 1)⟩,
  ⟨some 30, some (27, false), .mov (.t 2)⟩,
  ⟨some 31, some (27, false), .call n_pianolaref2_Ram_In [(.t 28), (.t 29), (.t 30)]⟩,
  ⟨some 32, some (27, false), .un .not (.t 31)⟩,
  ⟨some 33, none, .pick (.t 27) (.c (.bool true)) (.t 32)⟩])
  (.cond (.t 33)
  (.seq (.ops [⟨some 6, none, .mov (.c (.int .u32 0))⟩,
  ⟨some 7, none, .mov (.c (.bool false))⟩])
  (.ret))
  (.skip)))
  (.seq (.ops [⟨some 8, none, .mov (.c (.int .u32 0))⟩])
  (.seq (.seq (.ops [⟨some 9, none, .mov (.c (.int .i64 0))⟩])
  (.block 0
  (.loop c1_pianolaref2_Ram_Load)))
  (.seq (.ops [⟨some 53, none, .mov (.t 8)⟩,
  ⟨some 6, none, .mov (.t 53)⟩,
  ⟨some 7, none, .mov (.c (.bool true))⟩])
  (.ret))))
def c_pianolaref2_Ram_Load : C :=
 .seq (.ops [⟨some 6, none, .mov (.c (.int .u32 0))⟩,
  ⟨some 7, none, .mov (.c (.bool false))⟩])
  (c2_pianolaref2_Ram_Load)
def f_pianolaref2_Ram_Load : F := ⟨c_pianolaref2_Ram_Load, [.t 6, .t 7], some []⟩
theorem h_pianolaref2_Ram_Load : compF Tryz.prog (compAny Tryz.prog) n_pianolaref2_Ram_Load = some (f_pianolaref2_Ram_Load.body, f_pianolaref2_Ram_Load.res) := by kernel_rfl
def c0_pianolaref15_where : C :=
 .seq (.ops [⟨some 25, none, .mov (.t 7)⟩,
  ⟨some 26, none, .bin .quo (.t 25) (.c (.int .u32 64))⟩,
  ⟨some 27, none, .conv .i64 (.t 26)⟩,
  ⟨some 28, none, .mov (.t 7)⟩,
  ⟨some 29, none, .bin .rem (.t 28) (.c (.int .u32 64))⟩,
  ⟨some 4, none, .mov (.t 27)⟩,
  ⟨some 5, none, .mov (.t 29)⟩,
  ⟨some 6, none, .mov (.c (.bool true))⟩])
  (.ret)
def c1_pianolaref15_where : C :=
 .seq (.seq (.ops [⟨some 8, none, .mov (.t 1)⟩,
  ⟨some 9, none, .bin .neq (.t 8) (.c (.int .i64 4))⟩,
  ⟨some 10, none, .mov (.t 9)⟩,
  ⟨some 11, some (10, false), .mov (.t 0)⟩,
  ⟨some 12, some (10, false), .bin .lss (.t 11) (.c (.int .u32 520093696))⟩,
  ⟨some 13, none, .pick (.t 10) (.c (.bool true)) (.t 12)⟩,
  ⟨some 14, none, .mov (.t 13)⟩,
  ⟨some 15, some (14, false), .mov (.t 0)⟩,
  ⟨some 16, some (14, false), .bin .geq (.t 15) (.c (.int .u32 520094080))⟩,
  ⟨some 17, none, .pick (.t 14) (.c (.bool true)) (.t 16)⟩,
  ⟨some 18, none, .mov (.t 17)⟩,
  ⟨some 19, some (18, false), .mov (.t 0)⟩,
  ⟨some 20, some (18, false), .bin .rem (.t 19) (.c (.int .u32 4))⟩,
  ⟨some 21, some (18, false), .bin .neq (.t 20) (.c (.int .u32 0))⟩,
  ⟨some 22, none, .pick (.t 18) (.c (.bool true)) (.t 21)⟩])
  (.cond (.t 22)
  (.seq (.ops [⟨some 4, none, .mov (.c (.int .i64 0))⟩,
  ⟨some 5, none, .mov (.c (.int .u32 0))⟩,
  ⟨some 6, none, .mov (.c (.bool false))⟩])
  (.ret))
  (.skip)))
  (.seq (.ops [⟨some 23, none, .mov (.t 0)⟩,
  ⟨some 24, none, .bin .sub (.t 23) (.c (.int .u32 520093696))⟩,
  ⟨some 7, none, .mov (.t 24)⟩])
  (c0_pianolaref15_where))
def c_pianolaref15_where : C :=
 .seq (.ops [⟨some 4, none, .mov (.c (.int .i64 0))⟩,
  ⟨some 5, none, .mov (.c (.int .u32 0))⟩,
  ⟨some 6, none, .mov (.c (.bool false))⟩])
  (c1_pianolaref15_where)
def f_pianolaref15_where : F := ⟨c_pianolaref15_where, [.t 4, .t 5, .t 6], some []⟩
theorem h_pianolaref15_where : compF Tryz.prog (compAny Tryz.prog) n_pianolaref15_where = some (f_pianolaref15_where.body, f_pianolaref15_where.res) := by kernel_rfl
def c0_pianolaref15_Bus_Word : C :=
 .any 1 [.op 0 ⟨some 17, none, .mov (.t 0)⟩,
  .op 1 ⟨some 18, none, .nilc (.t 17)⟩,
  .op 2 ⟨some 19, none, .fa 23 (.t 18)⟩,
  .op 3 ⟨some 20, none, .ld (.t 19)⟩,
  .op 4 ⟨some 21, none, .mov (.t 0)⟩,
  .op 5 ⟨some 22, none, .nilc (.t 21)⟩,
  .op 6 ⟨some 23, none, .fa 24 (.t 22)⟩,
  .op 7 ⟨some 24, none, .ld (.t 23)⟩,
  .op 8 ⟨some 25, none, .mov (.t 3)⟩,
  .op 9 ⟨some 26, none, .conv .u64 (.t 25)⟩,
  .op 10 ⟨some 27, none, .conv .u32 (.t 26)⟩,
  .op 11 ⟨some 28, none, .mov (.t 3)⟩,
  .op 12 ⟨some 29, none, .conv .u64 (.t 28)⟩,
  .op 13 ⟨some 30, none, .bin .shr (.t 29) (.c (.int .u64 32))⟩,
  .op 14 ⟨some 31, none, .conv .u32 (.t 30)⟩,
  .al 15 0 ⟨some 32, none, .bsl 4 [(.int .u32 0), (.int .u32 0), (.int .u32 0), (.int .u32 0)] [(0, 1, (.t 20)), (1, 1, (.t 24)), (2, 1, (.t 27)), (3, 1, (.t 31))]⟩,
  .op 16 ⟨some 10, none, .mov (.t 32)⟩]
def c1_pianolaref15_Bus_Word : C :=
 .ops [⟨some 43, none, .fa 0 (.t 11)⟩,
  ⟨some 44, none, .ld (.t 43)⟩,
  ⟨some 45, none, .fa 1 (.t 11)⟩,
  ⟨some 46, none, .ld (.t 45)⟩,
  ⟨some 47, none, .fa 2 (.t 11)⟩,
  ⟨some 48, none, .ld (.t 47)⟩,
  ⟨some 49, none, .bsl 3 [(.int .u32 0), (.int .u32 0), (.int .u32 0)] [(0, 1, (.t 44)), (1, 1, (.t 46)), (2, 1, (.t 48))]⟩,
  ⟨some 10, none, .mov (.t 49)⟩]
def c2_pianolaref15_Bus_Word : C :=
 .seq (.ops [⟨some 36, none, .mov (.t 0)⟩,
  ⟨some 37, none, .mov (.t 1)⟩,
  ⟨some 38, none, .bin .sub (.t 37) (.c (.int .i64 1))⟩,
  ⟨some 39, none, .nilc (.t 36)⟩,
  ⟨some 40, none, .fa 3 (.t 39)⟩,
  ⟨some 41, none, .iaa 2 3 (.t 40) (.t 38)⟩,
  ⟨some 42, none, .ldn 3 (.t 41)⟩,
  ⟨some 11, none, .new [(.int .u32 0), (.int .u32 0), (.int .u32 0)]⟩,
  ⟨none, none, .stn 3 (.t 11) (.t 42)⟩])
  (c1_pianolaref15_Bus_Word)
def c3_pianolaref15_Bus_Word : C :=
 .ops [⟨some 59, none, .mov (.t 0)⟩,
  ⟨some 60, none, .nilc (.t 59)⟩,
  ⟨some 61, none, .fa 9 (.t 60)⟩,
  ⟨some 62, none, .fa 0 (.t 61)⟩,
  ⟨some 63, none, .ld (.t 62)⟩,
  ⟨some 64, none, .ia 1 (.t 63) (.c (.int .i64 0))⟩,
  ⟨some 65, none, .ld (.t 64)⟩,
  ⟨some 66, none, .conv .u32 (.t 65)⟩,
  ⟨some 12, none, .mov (.t 66)⟩]
def c4_pianolaref15_Bus_Word : C :=
 .any 1 [.op 1 ⟨some 68, none, .mov (.t 0)⟩,
  .op 2 ⟨some 69, none, .nilc (.t 68)⟩,
  .op 3 ⟨some 70, none, .fa 9 (.t 69)⟩,
  .op 4 ⟨some 71, none, .fa 0 (.t 70)⟩,
  .op 5 ⟨some 72, none, .ld (.t 71)⟩,
  .op 6 ⟨some 73, none, .len 1 (.t 72)⟩,
  .op 9 ⟨some 76, none, .mov (.t 0)⟩,
  .op 10 ⟨some 77, none, .nilc (.t 76)⟩,
  .op 11 ⟨some 78, none, .fa 9 (.t 77)⟩,
  .op 12 ⟨some 79, none, .fa 1 (.t 78)⟩,
  .op 13 ⟨some 80, none, .ld (.t 79)⟩,
  .op 14 ⟨some 81, none, .len 1 (.t 80)⟩,
  .op 18 ⟨some 85, none, .mov (.t 0)⟩,
  .op 19 ⟨some 86, none, .nilc (.t 85)⟩,
  .op 20 ⟨some 87, none, .fa 9 (.t 86)⟩,
  .op 21 ⟨some 88, none, .fa 2 (.t 87)⟩,
  .op 22 ⟨some 89, none, .ld (.t 88)⟩,
  .op 25 ⟨some 92, none, .mov (.t 0)⟩,
  .op 26 ⟨some 93, none, .nilc (.t 92)⟩,
  .op 27 ⟨some 94, none, .fa 9 (.t 93)⟩,
  .op 28 ⟨some 95, none, .fa 1 (.t 94)⟩,
  .op 29 ⟨some 96, none, .ld (.t 95)⟩,
  .op 30 ⟨some 97, none, .len 1 (.t 96)⟩,
  .op 34 ⟨some 101, none, .mov (.t 0)⟩,
  .op 35 ⟨some 102, none, .nilc (.t 101)⟩,
  .op 36 ⟨some 103, none, .fa 9 (.t 102)⟩,
  .op 37 ⟨some 104, none, .fa 3 (.t 103)⟩,
  .op 38 ⟨some 105, none, .ld (.t 104)⟩,
  .op 7 ⟨some 74, none, .bin .gtr (.t 73) (.c (.int .i64 0))⟩,
  .op 8 ⟨some 75, none, .call n_pianolaref15_bit [(.t 74), (.c (.int .u64 0))]⟩,
  .re 13 ⟨some 80, none, .ld (.t 79)⟩,
  .re 14 ⟨some 81, none, .len 1 (.t 80)⟩,
  .re 22 ⟨some 89, none, .ld (.t 88)⟩,
  .re 29 ⟨some 96, none, .ld (.t 95)⟩,
  .re 30 ⟨some 97, none, .len 1 (.t 96)⟩,
  .re 38 ⟨some 105, none, .ld (.t 104)⟩,
  .op 15 ⟨some 82, none, .bin .geq (.t 81) (.c (.int .i64 16))⟩,
  .op 16 ⟨some 83, none, .call n_pianolaref15_bit [(.t 82), (.c (.int .u64 1))]⟩,
  .re 22 ⟨some 89, none, .ld (.t 88)⟩,
  .re 29 ⟨some 96, none, .ld (.t 95)⟩,
  .re 30 ⟨some 97, none, .len 1 (.t 96)⟩,
  .re 38 ⟨some 105, none, .ld (.t 104)⟩,
  .op 23 ⟨some 90, none, .call n_pianolaref15_bit [(.t 89), (.c (.int .u64 2))]⟩,
  .re 29 ⟨some 96, none, .ld (.t 95)⟩,
  .re 30 ⟨some 97, none, .len 1 (.t 96)⟩,
  .re 38 ⟨some 105, none, .ld (.t 104)⟩,
  .op 31 ⟨some 98, none, .bin .eql (.t 97) (.c (.int .i64 0))⟩,
  .op 32 ⟨some 99, none, .call n_pianolaref15_bit [(.t 98), (.c (.int .u64 3))]⟩,
  .re 38 ⟨some 105, none, .ld (.t 104)⟩,
  .op 0 ⟨some 67, none, .mov (.t 12)⟩,
  .op 17 ⟨some 84, none, .bin .or (.t 75) (.t 83)⟩,
  .op 24 ⟨some 91, none, .bin .or (.t 84) (.t 90)⟩,
  .op 33 ⟨some 100, none, .bin .or (.t 91) (.t 99)⟩,
  .al 39 0 ⟨some 106, none, .bsl 3 [(.int .u32 0), (.int .u32 0), (.int .u32 0)] [(0, 1, (.t 67)), (1, 1, (.t 100)), (2, 1, (.t 105))]⟩,
  .op 40 ⟨some 10, none, .mov (.t 106)⟩]
def c5_pianolaref15_Bus_Word : C :=
 .seq (.seq (.ops [⟨some 52, none, .mov (.t 0)⟩,
  ⟨some 53, none, .nilc (.t 52)⟩,
  ⟨some 54, none, .fa 9 (.t 53)⟩,
  ⟨some 55, none, .fa 0 (.t 54)⟩,
  ⟨some 56, none, .ld (.t 55)⟩,
  ⟨some 57, none, .len 1 (.t 56)⟩,
  ⟨some 58, none, .bin .gtr (.t 57) (.c (.int .i64 0))⟩])
  (.cond (.t 58)
  (c3_pianolaref15_Bus_Word)
  (.skip)))
  (c4_pianolaref15_Bus_Word)
def c6_pianolaref15_Bus_Word : C :=
 .any 1 [.op 0 ⟨some 109, none, .mov (.t 0)⟩,
  .op 1 ⟨some 110, none, .nilc (.t 109)⟩,
  .op 2 ⟨some 111, none, .fa 14 (.t 110)⟩,
  .op 3 ⟨some 112, none, .fa 0 (.t 111)⟩,
  .op 4 ⟨some 113, none, .ld (.t 112)⟩,
  .op 5 ⟨some 114, none, .mov (.t 0)⟩,
  .op 6 ⟨some 115, none, .nilc (.t 114)⟩,
  .op 7 ⟨some 116, none, .fa 14 (.t 115)⟩,
  .op 8 ⟨some 117, none, .fa 1 (.t 116)⟩,
  .op 9 ⟨some 118, none, .ld (.t 117)⟩,
  .op 10 ⟨some 119, none, .mov (.t 0)⟩,
  .op 11 ⟨some 120, none, .nilc (.t 119)⟩,
  .op 12 ⟨some 121, none, .fa 14 (.t 120)⟩,
  .op 13 ⟨some 122, none, .fa 2 (.t 121)⟩,
  .op 14 ⟨some 123, none, .ld (.t 122)⟩,
  .op 15 ⟨some 124, none, .mov (.t 0)⟩,
  .op 16 ⟨some 125, none, .nilc (.t 124)⟩,
  .op 17 ⟨some 126, none, .fa 14 (.t 125)⟩,
  .op 18 ⟨some 127, none, .fa 3 (.t 126)⟩,
  .op 19 ⟨some 128, none, .ld (.t 127)⟩,
  .al 20 0 ⟨some 129, none, .bsl 5 [(.int .u32 0), (.int .u32 0), (.int .u32 0), (.int .u32 0), (.int .u32 0)] [(0, 1, (.t 113)), (1, 1, (.t 118)), (2, 1, (.t 123)), (3, 1, (.c (.int .u32 0))), (4, 1, (.t 128))]⟩,
  .op 21 ⟨some 10, none, .mov (.t 129)⟩]
def c7_pianolaref15_Bus_Word : C :=
 .any 1 [.op 0 ⟨some 132, none, .mov (.t 0)⟩,
  .op 1 ⟨some 133, none, .nilc (.t 132)⟩,
  .op 2 ⟨some 134, none, .fa 18 (.t 133)⟩,
  .op 3 ⟨some 135, none, .fa 0 (.t 134)⟩,
  .op 4 ⟨some 136, none, .ld (.t 135)⟩,
  .op 5 ⟨some 137, none, .mov (.t 0)⟩,
  .op 6 ⟨some 138, none, .nilc (.t 137)⟩,
  .op 7 ⟨some 139, none, .fa 18 (.t 138)⟩,
  .op 8 ⟨some 140, none, .fa 1 (.t 139)⟩,
  .op 9 ⟨some 141, none, .ld (.t 140)⟩,
  .op 10 ⟨some 142, none, .mov (.t 0)⟩,
  .op 11 ⟨some 143, none, .nilc (.t 142)⟩,
  .op 12 ⟨some 144, none, .fa 18 (.t 143)⟩,
  .op 13 ⟨some 145, none, .fa 2 (.t 144)⟩,
  .op 14 ⟨some 146, none, .ld (.t 145)⟩,
  .op 15 ⟨some 147, none, .mov (.t 0)⟩,
  .op 16 ⟨some 148, none, .nilc (.t 147)⟩,
  .op 17 ⟨some 149, none, .fa 18 (.t 148)⟩,
  .op 18 ⟨some 150, none, .fa 3 (.t 149)⟩,
  .op 19 ⟨some 151, none, .ld (.t 150)⟩,
  .al 20 0 ⟨some 152, none, .bsl 4 [(.int .u32 0), (.int .u32 0), (.int .u32 0), (.int .u32 0)] [(0, 1, (.t 136)), (1, 1, (.t 141)), (2, 1, (.t 146)), (3, 1, (.t 151))]⟩,
  .op 21 ⟨some 10, none, .mov (.t 152)⟩]
def c8_pianolaref15_Bus_Word : C :=
 .cond (.t 50)
  (.seq (.ops [⟨some 12, none, .mov (.c (.int .u32 256))⟩])
  (c5_pianolaref15_Bus_Word))
  (.seq (.ops [⟨some 108, none, .bin .eql (.t 14) (.c (.int .i64 4))⟩,
  ⟨some 107, none, .mov (.t 108)⟩])
  (.cond (.t 107)
  (c6_pianolaref15_Bus_Word)
  (.seq (.ops [⟨some 131, none, .bin .eql (.t 14) (.c (.int .i64 5))⟩,
  ⟨some 130, none, .mov (.t 131)⟩])
  (.cond (.t 130)
  (c7_pianolaref15_Bus_Word)
  (.skip)))))
def c9_pianolaref15_Bus_Word : C :=
 .seq (.seq (.ops [⟨some 34, none, .bin .eql (.t 14) (.c (.int .i64 1))⟩,
  ⟨some 33, none, .mov (.t 34)⟩])
  (.cond (.t 33)
  (.skip)
  (.ops [⟨some 35, none, .bin .eql (.t 14) (.c (.int .i64 2))⟩,
  ⟨some 33, none, .mov (.t 35)⟩])))
  (.cond (.t 33)
  (c2_pianolaref15_Bus_Word)
  (.seq (.ops [⟨some 51, none, .bin .eql (.t 14) (.c (.int .i64 3))⟩,
  ⟨some 50, none, .mov (.t 51)⟩])
  (c8_pianolaref15_Bus_Word)))
def c10_pianolaref15_Bus_Word : C :=
 .ops [⟨some 179, none, .mov (.t 0)⟩,
  ⟨some 180, none, .bsl 0 [] []⟩,
  ⟨some 181, none, .mov (.t 0)⟩,
  ⟨some 182, none, .nilc (.t 181)⟩,
  ⟨some 183, none, .fa 9 (.t 182)⟩,
  ⟨some 184, none, .fa 0 (.t 183)⟩,
  ⟨some 185, none, .ld (.t 184)⟩,
  ⟨some 186, none, .sl 1 (.t 185) (some (.c (.int .i64 1))) none none⟩,
  ⟨some 187, none, .app 1 1 (.t 180) (.t 186)⟩,
  ⟨some 188, none, .nilc (.t 179)⟩,
  ⟨some 189, none, .fa 9 (.t 188)⟩,
  ⟨some 190, none, .fa 0 (.t 189)⟩,
  ⟨none, none, .st (.t 190) (.t 187)⟩]
def c11_pianolaref15_Bus_Word : C :=
 .seq (.seq (.ops [⟨some 164, none, .mov (.t 1)⟩,
  ⟨some 165, none, .bin .eql (.t 164) (.c (.int .i64 3))⟩,
  ⟨some 166, none, .mov (.t 165)⟩,
  ⟨some 167, some (166, true), .mov (.t 2)⟩,
  ⟨some 168, some (166, true), .bin .eql (.t 167) (.c (.int .u32 0))⟩,
  ⟨some 169, none, .pick (.t 166) (.t 168) (.c (.bool false))⟩,
  ⟨some 170, none, .mov (.t 169)⟩,
  ⟨some 171, some (170, true), .mov (.t 0)⟩,
  ⟨some 172, some (170, true), .nilc (.t 171)⟩,
  ⟨some 173, some (170, true), .fa 9 (.t 172)⟩,
  ⟨some 174, some (170, true), .fa 0 (.t 173)⟩,
  ⟨some 175, some (170, true), .ld (.t 174)⟩,
  ⟨some 176, some (170, true), .len 1 (.t 175)⟩,
  ⟨some 177, some (170, true), .bin .gtr (.t 176) (.c (.int .i64 0))⟩,
  ⟨some 178, none, .pick (.t 170) (.t 177) (.c (.bool false))⟩])
  (.cond (.t 178)
  (c10_pianolaref15_Bus_Word)
  (.skip)))
  (.seq (.ops [⟨some 191, none, .mov (.t 10)⟩,
  ⟨some 192, none, .mov (.t 2)⟩,
  ⟨some 193, none, .bin .quo (.t 192) (.c (.int .u32 4))⟩,
  ⟨some 194, none, .ia 1 (.t 191) (.t 193)⟩,
  ⟨some 195, none, .ld (.t 194)⟩,
  ⟨some 8, none, .mov (.t 195)⟩,
  ⟨some 9, none, .mov (.c (.bool true))⟩])
  (.ret))
def c12_pianolaref15_Bus_Word : C :=
 .seq (.seq (.ops [⟨some 153, none, .mov (.t 2)⟩,
  ⟨some 154, none, .bin .rem (.t 153) (.c (.int .u32 4))⟩,
  ⟨some 155, none, .bin .neq (.t 154) (.c (.int .u32 0))⟩,
  ⟨some 156, none, .mov (.t 155)⟩,
  ⟨some 157, some (156, false), .mov (.t 2)⟩,
  ⟨some 158, some (156, false), .bin .quo (.t 157) (.c (.int .u32 4))⟩,
  ⟨some 159, some (156, false), .mov (.t 10)⟩,
  ⟨some 160, some (156, false), .len 1 (.t 159)⟩,
  ⟨some 161, some (156, false), .conv .u32 (.t 160)⟩,
  ⟨some 162, some (156, false), .bin .geq (.t 158) (.t 161)⟩,
  ⟨some 163, none, .pick (.t 156) (.c (.bool true)) (.t 162)⟩])
  (.cond (.t 163)
  (.seq (.ops [⟨some 8, none, .mov (.c (.int .u32 0))⟩,
  ⟨some 9, none, .mov (.c (.bool false))⟩])
  (.ret))
  (.skip)))
  (c11_pianolaref15_Bus_Word)
def c_pianolaref15_Bus_Word : C :=
 .seq (.ops [⟨some 8, none, .mov (.c (.int .u32 0))⟩,
  ⟨some 9, none, .mov (.c (.bool false))⟩])
  (.seq (.ops [⟨some 13, none, .bsl 0 [] []⟩,
  ⟨some 10, none, .mov (.t 13)⟩])
  (.seq (.seq (.ops [⟨some 14, none, .mov (.t 1)⟩])
  (.block 0
  (.seq (.ops [⟨some 16, none, .bin .eql (.t 14) (.c (.int .i64 0))⟩,
  ⟨some 15, none, .mov (.t 16)⟩])
  (.cond (.t 15)
  (c0_pianolaref15_Bus_Word)
  (c9_pianolaref15_Bus_Word)))))
  (c12_pianolaref15_Bus_Word)))
def f_pianolaref15_Bus_Word : F := ⟨c_pianolaref15_Bus_Word, [.t 8, .t 9], some []⟩
theorem h_pianolaref15_Bus_Word : compF Tryz.prog (compAny Tryz.prog) n_pianolaref15_Bus_Word = some (f_pianolaref15_Bus_Word.body, f_pianolaref15_Bus_Word.res) := by kernel_rfl
def c0_pianolaref15_Bus_gather : C :=
 .ops [⟨some 13, none, .mov (.t 0)⟩,
  ⟨some 14, none, .mov (.t 0)⟩,
  ⟨some 15, none, .nilc (.t 14)⟩,
  ⟨some 16, none, .fa 23 (.t 15)⟩,
  ⟨some 17, none, .ld (.t 16)⟩,
  ⟨some 18, none, .mov (.t 2)⟩,
  ⟨some 19, none, .conv .u64 (.t 18)⟩,
  ⟨some 20, none, .bin .shl (.c (.int .u32 1)) (.t 19)⟩,
  ⟨some 21, none, .bin .or (.t 17) (.t 20)⟩,
  ⟨some 22, none, .nilc (.t 13)⟩,
  ⟨some 23, none, .fa 23 (.t 22)⟩,
  ⟨none, none, .st (.t 23) (.t 21)⟩]
def c1_pianolaref15_Bus_gather : C :=
 .seq (.seq (.ops [⟨some 6, none, .mov (.t 2)⟩,
  ⟨some 7, none, .bin .lss (.t 6) (.c (.int .i64 6))⟩])
  (.cond (.t 7)
  (.skip)
  (.exit 0)))
  (.seq (.block 1
  (.seq (.ops [⟨some 10, none, .mov (.t 0)⟩,
  ⟨some 11, none, .mov (.t 2)⟩,
  ⟨some 12, none, .call n_pianolaref15_Bus_Line [(.t 10), (.t 11)]⟩])
  (.cond (.t 12)
  (c0_pianolaref15_Bus_gather)
  (.skip))))
  (.ops [⟨some 8, none, .mov (.t 2)⟩,
  ⟨some 9, none, .bin .add (.t 8) (.c (.int .i64 1))⟩,
  ⟨some 2, none, .mov (.t 9)⟩]))
def c_pianolaref15_Bus_gather : C :=
 .seq (.ops [⟨some 3, none, .mov (.t 0)⟩,
  ⟨some 4, none, .nilc (.t 3)⟩,
  ⟨some 5, none, .fa 23 (.t 4)⟩,
  ⟨none, none, .st (.t 5) (.c (.int .u32 0))⟩])
  (.seq (.ops [⟨some 2, none, .mov (.c (.int .i64 1))⟩])
  (.block 0
  (.loop c1_pianolaref15_Bus_gather)))
def f_pianolaref15_Bus_gather : F := ⟨c_pianolaref15_Bus_gather, [], some []⟩
theorem h_pianolaref15_Bus_gather : compF Tryz.prog (compAny Tryz.prog) n_pianolaref15_Bus_gather = some (f_pianolaref15_Bus_gather.body, f_pianolaref15_Bus_gather.res) := by kernel_rfl
def c0_ram_Ram_Store : C :=
 .any 0 [.op 0 ⟨some 19, none, .mov (.t 0)⟩,
  .op 1 ⟨some 20, none, .nilc (.t 19)⟩,
  .op 2 ⟨some 21, none, .fa 0 (.t 20)⟩,
  .op 3 ⟨some 22, none, .ld (.t 21)⟩,
  .op 4 ⟨some 23, none, .mov (.t 1)⟩,
  .op 5 ⟨some 24, none, .conv .i64 (.t 23)⟩,
  .op 6 ⟨some 25, none, .mov (.t 2)⟩,
  .op 7 ⟨some 26, none, .bin .add (.t 24) (.t 25)⟩,
  .op 8 ⟨some 27, none, .bin .sub (.t 26) (.c (.int .i64 1))⟩,
  .op 9 ⟨some 28, none, .mov (.t 9)⟩,
  .op 10 ⟨some 29, none, .bin .sub (.t 27) (.t 28)⟩,
  .op 11 ⟨some 30, none, .mov (.t 3)⟩,
  .op 12 ⟨some 31, none, .mov (.t 9)⟩,
  .op 13 ⟨some 32, none, .bin .mul (.c (.int .i64 8)) (.t 31)⟩,
  .op 14 ⟨some 33, none, .bin .shr (.t 30) (.t 32)⟩,
  .op 15 ⟨some 34, none, .conv .u8 (.t 33)⟩,
  .op 16 ⟨some 35, none, .ia 1 (.t 22) (.t 29)⟩,
  .op 17 ⟨none, none, .st (.t 35) (.t 34)⟩]
def c1_ram_Ram_Store : C :=
 .seq (.ops [⟨some 17, none, .bin .lss (.t 16) (.t 15)⟩])
  (.seq (.cond (.t 17)
  (.skip)
  (.exit 0))
  (.seq (.block 1
  (.seq (.ops [⟨some 18, none, .mov (.t 16)⟩,
  ⟨some 9, none, .mov (.t 18)⟩])
  (c0_ram_Ram_Store)))
  (.ops [⟨some 36, none, .bin .add (.t 16) (.c (.int .i64 1))⟩,
  ⟨some 16, none, .mov (.t 36)⟩])))
def c2_ram_Ram_Store : C :=
 .seq (.seq (.ops [⟨some 15, none, .mov (.t 2)⟩,
  ⟨some 16, none, .mov (.c (.int .i64 0))⟩])
  (.block 0
  (.loop c1_ram_Ram_Store)))
  (.seq (.ops [⟨some 37, none, .mov (.t 0)⟩,
  ⟨some 38, none, .mov (.t 1)⟩,
  ⟨some 39, none, .mov (.t 2)⟩,
  ⟨some 40, none, .call n_ram_Ram_touch [(.t 37), (.t 38), (.t 39)]⟩])
  (.seq (.ops [⟨some 8, none, .mov (.c (.bool true))⟩])
  (.ret)))
def c3_ram_Ram_Store : C :=
 .seq (.seq (.ops [⟨some 10, none, .mov (.t 0)⟩,
  ⟨some 11, none, .mov (.t 1)⟩,
  ⟨some 12, none, .mov (.t 2)⟩,
  ⟨some 13, none, .call n_ram_Ram_even [(.t 10), (.t 11), (.t 12)]⟩,
  ⟨some 14, none, .un .not (.t 13)⟩])
  (.cond (.t 14)
  (.seq (.ops [⟨some 8, none, .mov (.c (.bool false))⟩])
  (.ret))
  (.skip)))
  (c2_ram_Ram_Store)
def c_ram_Ram_Store : C :=
 .seq (.ops [⟨some 8, none, .mov (.c (.bool false))⟩])
  (c3_ram_Ram_Store)
def f_ram_Ram_Store : F := ⟨c_ram_Ram_Store, [.t 8], some []⟩
theorem h_ram_Ram_Store : compF Tryz.prog (compAny Tryz.prog) n_ram_Ram_Store = some (f_ram_Ram_Store.body, f_ram_Ram_Store.res) := by kernel_rfl
def c0_bus_Bus_write : C :=
 .seq (.ops [⟨some 23, none, .mov (.t 0)⟩,
  ⟨some 24, none, .nilc (.t 23)⟩,
  ⟨some 25, none, .fa 3 (.t 24)⟩,
  ⟨some 26, none, .ld (.t 25)⟩,
  ⟨some 27, none, .mov (.t 2)⟩,
  ⟨some 28, none, .mov (.t 3)⟩,
  ⟨some 29, none, .mov (.t 4)⟩,
  ⟨some 30, none, .call n_timer_Timer_Write [(.t 26), (.t 27), (.t 28), (.t 29)]⟩,
  ⟨some 10, none, .mov (.t 30)⟩])
  (.ret)
def c1_bus_Bus_write : C :=
 .seq (.ops [⟨some 33, none, .mov (.t 0)⟩,
  ⟨some 34, none, .nilc (.t 33)⟩,
  ⟨some 35, none, .fa 4 (.t 34)⟩,
  ⟨some 36, none, .ld (.t 35)⟩,
  ⟨some 37, none, .mov (.t 2)⟩,
  ⟨some 38, none, .mov (.t 3)⟩,
  ⟨some 39, none, .mov (.t 4)⟩,
  ⟨some 40, none, .call n_timer_Timer_Write [(.t 36), (.t 37), (.t 38), (.t 39)]⟩,
  ⟨some 10, none, .mov (.t 40)⟩])
  (.ret)
def c2_bus_Bus_write : C :=
 .seq (.ops [⟨some 43, none, .mov (.t 0)⟩,
  ⟨some 44, none, .nilc (.t 43)⟩,
  ⟨some 45, none, .fa 5 (.t 44)⟩,
  ⟨some 46, none, .ld (.t 45)⟩,
  ⟨some 47, none, .mov (.t 2)⟩,
  ⟨some 48, none, .mov (.t 3)⟩,
  ⟨some 49, none, .mov (.t 4)⟩,
  ⟨some 50, none, .call n_uart_Uart_Write [(.t 46), (.t 47), (.t 48), (.t 49)]⟩,
  ⟨some 10, none, .mov (.t 50)⟩])
  (.ret)
def c3_bus_Bus_write : C :=
 .seq (.ops [⟨some 53, none, .mov (.t 0)⟩,
  ⟨some 54, none, .nilc (.t 53)⟩,
  ⟨some 55, none, .fa 6 (.t 54)⟩,
  ⟨some 56, none, .ld (.t 55)⟩,
  ⟨some 57, none, .mov (.t 2)⟩,
  ⟨some 58, none, .mov (.t 3)⟩,
  ⟨some 59, none, .mov (.t 4)⟩,
  ⟨some 60, none, .call n_dma_Dma_Write [(.t 56), (.t 57), (.t 58), (.t 59)]⟩,
  ⟨some 10, none, .mov (.t 60)⟩])
  (.ret)
def c4_bus_Bus_write : C :=
 .seq (.ops [⟨some 32, none, .bin .eql (.t 11) (.c (.int .i64 2))⟩,
  ⟨some 31, none, .mov (.t 32)⟩])
  (.cond (.t 31)
  (c1_bus_Bus_write)
  (.seq (.ops [⟨some 42, none, .bin .eql (.t 11) (.c (.int .i64 3))⟩,
  ⟨some 41, none, .mov (.t 42)⟩])
  (.cond (.t 41)
  (c2_bus_Bus_write)
  (.seq (.ops [⟨some 52, none, .bin .eql (.t 11) (.c (.int .i64 4))⟩,
  ⟨some 51, none, .mov (.t 52)⟩])
  (.cond (.t 51)
  (c3_bus_Bus_write)
  (.skip))))))
def c5_bus_Bus_write : C :=
 .cond (.t 12)
  (.seq (.ops [⟨some 14, none, .mov (.t 0)⟩,
  ⟨some 15, none, .nilc (.t 14)⟩,
  ⟨some 16, none, .fa 2 (.t 15)⟩,
  ⟨some 17, none, .ld (.t 16)⟩,
  ⟨some 18, none, .mov (.t 2)⟩,
  ⟨some 19, none, .mov (.t 3)⟩,
  ⟨some 20, none, .call n_lines_Lines_Write [(.t 17), (.t 18), (.t 19)]⟩,
  ⟨some 10, none, .mov (.t 20)⟩])
  (.ret))
  (.seq (.ops [⟨some 22, none, .bin .eql (.t 11) (.c (.int .i64 1))⟩,
  ⟨some 21, none, .mov (.t 22)⟩])
  (.cond (.t 21)
  (c0_bus_Bus_write)
  (c4_bus_Bus_write)))
def c6_bus_Bus_write : C :=
 .seq (.ops [⟨some 61, none, .mov (.t 0)⟩,
  ⟨some 62, none, .nilc (.t 61)⟩,
  ⟨some 63, none, .fa 7 (.t 62)⟩,
  ⟨some 64, none, .ld (.t 63)⟩,
  ⟨some 65, none, .mov (.t 2)⟩,
  ⟨some 66, none, .mov (.t 3)⟩,
  ⟨some 67, none, .mov (.t 4)⟩,
  ⟨some 68, none, .call n_disk_Disk_Write [(.t 64), (.t 65), (.t 66), (.t 67)]⟩,
  ⟨some 10, none, .mov (.t 68)⟩])
  (.ret)
def c_bus_Bus_write : C :=
 .seq (.ops [⟨some 10, none, .mov (.c (.bool false))⟩])
  (.seq (.seq (.ops [⟨some 11, none, .mov (.t 1)⟩])
  (.block 0
  (.seq (.ops [⟨some 13, none, .bin .eql (.t 11) (.c (.int .i64 0))⟩,
  ⟨some 12, none, .mov (.t 13)⟩])
  (c5_bus_Bus_write))))
  (c6_bus_Bus_write))
def f_bus_Bus_write : F := ⟨c_bus_Bus_write, [.t 10], some []⟩
theorem h_bus_Bus_write : compF Tryz.prog (compAny Tryz.prog) n_bus_Bus_write = some (f_bus_Bus_write.body, f_bus_Bus_write.res) := by kernel_rfl
def c0_pianolaref2_Ram_Store : C :=
 .seq (.block 1
  (.ops [⟨some 39, none, .mov (.t 0)⟩,
  ⟨some 40, none, .nilc (.t 39)⟩,
  ⟨some 41, none, .fa 0 (.t 40)⟩,
  ⟨some 42, none, .ld (.t 41)⟩,
  ⟨some 43, none, .mov (.t 1)⟩,
  ⟨some 44, none, .conv .i64 (.t 43)⟩,
  ⟨some 45, none, .mov (.t 9)⟩,
  ⟨some 46, none, .bin .add (.t 44) (.t 45)⟩,
  ⟨some 47, none, .mov (.t 3)⟩,
  ⟨some 48, none, .mov (.t 2)⟩,
  ⟨some 49, none, .bin .sub (.t 48) (.c (.int .i64 1))⟩,
  ⟨some 50, none, .mov (.t 9)⟩,
  ⟨some 51, none, .bin .sub (.t 49) (.t 50)⟩,
  ⟨some 52, none, .bin .mul (.c (.int .i64 8)) (.t 51)⟩,
  ⟨some 53, none, .conv .u64 (.t 52)⟩,
  ⟨some 54, none, .bin .shr (.t 47) (.t 53)⟩,
  ⟨some 55, none, .conv .u8 (.t 54)⟩,
  ⟨some 56, none, .ia 1 (.t 42) (.t 46)⟩,
  ⟨none, none, .st (.t 56) (.t 55)⟩]))
  (.ops [⟨some 37, none, .mov (.t 9)⟩,
  ⟨some 38, none, .bin .add (.t 37) (.c (.int .i64 1))⟩,
  ⟨some 9, none, .mov (.t 38)⟩])
def c1_pianolaref2_Ram_Store : C :=
 .seq (.seq (.ops [⟨some 34, none, .mov (.t 9)⟩,
  ⟨some 35, none, .mov (.t 2)⟩,
  ⟨some 36, none, .bin .lss (.t 34) (.t 35)⟩])
  (.cond (.t 36)
  (.skip)
  (.exit 0)))
  (c0_pianolaref2_Ram_Store)
def c2_pianolaref2_Ram_Store : C :=
 .seq (.seq (.ops [⟨some 9, none, .mov (.c (.int .i64 0))⟩])
  (.block 0
  (.loop c1_pianolaref2_Ram_Store)))
  (.seq (.ops [⟨some 57, none, .mov (.t 0)⟩,
  ⟨some 58, none, .mov (.t 1)⟩,
  ⟨some 59, none, .mov (.t 2)⟩,
  ⟨some 60, none, .call n_pianolaref2_Ram_touch [(.t 57), (.t 58), (.t 59)]⟩])
  (.seq (.ops [⟨some 8, none, .mov (.c (.bool true))⟩])
  (.ret)))
def c3_pianolaref2_Ram_Store : C :=
 .seq (.seq (.ops [⟨some 10, none, .mov (.t 2)⟩,
  ⟨some 11, none, .bin .neq (.t 10) (.c (.int .i64 1))⟩,
  ⟨some 12, none, .mov (.t 11)⟩,
  ⟨some 13, some (12, true), .mov (.t 2)⟩,
  ⟨some 14, some (12, true), .bin .neq (.t 13) (.c (.int .i64 2))⟩,
  ⟨some 15, none, .pick (.t 12) (.t 14) (.c (.bool false))⟩,
  ⟨some 16, none, .mov (.t 15)⟩,
  ⟨some 17, some (16, true), .mov (.t 2)⟩,
  ⟨some 18, some (16, true), .bin .neq (.t 17) (.c (.int .i64 4))⟩,
  ⟨some 19, none, .pick (.t 16) (.t 18) (.c (.bool false))⟩,
  ⟨some 20, none, .mov (.t 19)⟩,
  ⟨some 21, some (20, false), .mov (.t 1)⟩,
  ⟨some 22, some (20, false), .mov (.t 2)⟩,
  ⟨some 23, some (20, false), .conv .u32 (.t 22)⟩,
  ⟨some 24, some (20, false), .bin .rem (.t 21) (.t 23)⟩,
  ⟨some 25, some (20, false), .bin .neq (.t 24) (.c (.int .u32 0))⟩,
  ⟨some 26, none, .pick (.t 20) (.c (.bool true)) (.t 25)⟩,
  ⟨some 27, none, .mov (.t 26)⟩,
  ⟨some 28, some (27, false), .mov (.t 0)⟩,
  ⟨some 29, some (27, false), .mov (.t 1)⟩,
  ⟨some 30, some (27, false), .mov (.t 2)⟩,
  ⟨some 31, some (27, false), .call n_pianolaref2_Ram_In [(.t 28), (.t 29), (.t 30)]⟩,
  ⟨some 32, some (27, false), .un .not (.t 31)⟩,
  ⟨some 33, none, .pick (.t 27) (.c (.bool true)) (.t 32)⟩])
  (.cond (.t 33)
  (.seq (.ops [⟨some 8, none, .mov (.c (.bool false))⟩])
  (.ret))
  (.skip)))
  (c2_pianolaref2_Ram_Store)
def c_pianolaref2_Ram_Store : C :=
 .seq (.ops [⟨some 8, none, .mov (.c (.bool false))⟩])
  (c3_pianolaref2_Ram_Store)
def f_pianolaref2_Ram_Store : F := ⟨c_pianolaref2_Ram_Store, [.t 8], some []⟩
theorem h_pianolaref2_Ram_Store : compF Tryz.prog (compAny Tryz.prog) n_pianolaref2_Ram_Store = some (f_pianolaref2_Ram_Store.body, f_pianolaref2_Ram_Store.res) := by kernel_rfl
def c0_pianolaref15_Bus_Set : C :=
 .seq (.seq (.ops [⟨some 17, none, .mov (.t 2)⟩,
  ⟨some 18, none, .bin .eql (.t 17) (.c (.int .u32 4))⟩])
  (.cond (.t 18)
  (.ops [⟨some 19, none, .mov (.t 0)⟩,
  ⟨some 20, none, .mov (.t 3)⟩,
  ⟨some 21, none, .bin .and (.t 20) (.c (.int .u32 62))⟩,
  ⟨some 22, none, .nilc (.t 19)⟩,
  ⟨some 23, none, .fa 24 (.t 22)⟩,
  ⟨none, none, .st (.t 23) (.t 21)⟩])
  (.skip)))
  (.seq (.ops [⟨some 24, none, .mov (.t 2)⟩,
  ⟨some 25, none, .bin .lss (.t 24) (.c (.int .u32 16))⟩,
  ⟨some 10, none, .mov (.t 25)⟩])
  (.ret))
def c1_pianolaref15_Bus_Set : C :=
 .seq (.ops [⟨some 29, none, .mov (.t 0)⟩,
  ⟨some 30, none, .mov (.t 1)⟩,
  ⟨some 31, none, .mov (.t 2)⟩,
  ⟨some 32, none, .bin .quo (.t 31) (.c (.int .u32 4))⟩,
  ⟨some 33, none, .mov (.t 3)⟩,
  ⟨some 34, none, .mov (.t 4)⟩,
  ⟨some 35, none, .call n_pianolaref15_Bus_timer [(.t 29), (.t 30), (.t 32), (.t 33), (.t 34)]⟩,
  ⟨some 10, none, .mov (.t 35)⟩])
  (.ret)
def c2_pianolaref15_Bus_Set : C :=
 .cond (.t 52)
  (.seq (.ops [⟨some 54, none, .mov (.t 0)⟩,
  ⟨some 55, none, .mov (.t 2)⟩,
  ⟨some 56, none, .bin .quo (.t 55) (.c (.int .u32 4))⟩,
  ⟨some 57, none, .mov (.t 3)⟩,
  ⟨some 58, none, .mov (.t 4)⟩,
  ⟨some 59, none, .call n_pianolaref15_Bus_disk [(.t 54), (.t 56), (.t 57), (.t 58)]⟩,
  ⟨some 10, none, .mov (.t 59)⟩])
  (.ret))
  (.skip)
def c3_pianolaref15_Bus_Set : C :=
 .cond (.t 44)
  (.seq (.ops [⟨some 46, none, .mov (.t 0)⟩,
  ⟨some 47, none, .mov (.t 2)⟩,
  ⟨some 48, none, .bin .quo (.t 47) (.c (.int .u32 4))⟩,
  ⟨some 49, none, .mov (.t 3)⟩,
  ⟨some 50, none, .mov (.t 4)⟩,
  ⟨some 51, none, .call n_pianolaref15_Bus_dma [(.t 46), (.t 48), (.t 49), (.t 50)]⟩,
  ⟨some 10, none, .mov (.t 51)⟩])
  (.ret))
  (.seq (.ops [⟨some 53, none, .bin .eql (.t 14) (.c (.int .i64 5))⟩,
  ⟨some 52, none, .mov (.t 53)⟩])
  (c2_pianolaref15_Bus_Set))
def c4_pianolaref15_Bus_Set : C :=
 .cond (.t 36)
  (.seq (.ops [⟨some 38, none, .mov (.t 0)⟩,
  ⟨some 39, none, .mov (.t 2)⟩,
  ⟨some 40, none, .bin .quo (.t 39) (.c (.int .u32 4))⟩,
  ⟨some 41, none, .mov (.t 3)⟩,
  ⟨some 42, none, .mov (.t 4)⟩,
  ⟨some 43, none, .call n_pianolaref15_Bus_uart [(.t 38), (.t 40), (.t 41), (.t 42)]⟩,
  ⟨some 10, none, .mov (.t 43)⟩])
  (.ret))
  (.seq (.ops [⟨some 45, none, .bin .eql (.t 14) (.c (.int .i64 4))⟩,
  ⟨some 44, none, .mov (.t 45)⟩])
  (c3_pianolaref15_Bus_Set))
def c5_pianolaref15_Bus_Set : C :=
 .seq (.seq (.ops [⟨some 27, none, .bin .eql (.t 14) (.c (.int .i64 1))⟩,
  ⟨some 26, none, .mov (.t 27)⟩])
  (.cond (.t 26)
  (.skip)
  (.ops [⟨some 28, none, .bin .eql (.t 14) (.c (.int .i64 2))⟩,
  ⟨some 26, none, .mov (.t 28)⟩])))
  (.cond (.t 26)
  (c1_pianolaref15_Bus_Set)
  (.seq (.ops [⟨some 37, none, .bin .eql (.t 14) (.c (.int .i64 3))⟩,
  ⟨some 36, none, .mov (.t 37)⟩])
  (c4_pianolaref15_Bus_Set)))
def c6_pianolaref15_Bus_Set : C :=
 .seq (.seq (.ops [⟨some 11, none, .mov (.t 2)⟩,
  ⟨some 12, none, .bin .rem (.t 11) (.c (.int .u32 4))⟩,
  ⟨some 13, none, .bin .neq (.t 12) (.c (.int .u32 0))⟩])
  (.cond (.t 13)
  (.seq (.ops [⟨some 10, none, .mov (.c (.bool false))⟩])
  (.ret))
  (.skip)))
  (.seq (.seq (.ops [⟨some 14, none, .mov (.t 1)⟩])
  (.block 0
  (.seq (.ops [⟨some 16, none, .bin .eql (.t 14) (.c (.int .i64 0))⟩,
  ⟨some 15, none, .mov (.t 16)⟩])
  (.cond (.t 15)
  (c0_pianolaref15_Bus_Set)
  (c5_pianolaref15_Bus_Set)))))
  (.seq (.ops [⟨some 10, none, .mov (.c (.bool false))⟩])
  (.ret)))
def c_pianolaref15_Bus_Set : C :=
 .seq (.ops [⟨some 10, none, .mov (.c (.bool false))⟩])
  (c6_pianolaref15_Bus_Set)
def f_pianolaref15_Bus_Set : F := ⟨c_pianolaref15_Bus_Set, [.t 10], some []⟩
theorem h_pianolaref15_Bus_Set : compF Tryz.prog (compAny Tryz.prog) n_pianolaref15_Bus_Set = some (f_pianolaref15_Bus_Set.body, f_pianolaref15_Bus_Set.res) := by kernel_rfl
def c0_bus_Bus_Next : C :=
 .seq (.ops [⟨some 4, none, .mov (.t 0)⟩,
  ⟨some 5, none, .nilc (.t 4)⟩,
  ⟨some 6, none, .fa 1 (.t 5)⟩,
  ⟨some 7, none, .ld (.t 6)⟩,
  ⟨some 8, none, .call n_wheel_Wheel_Next [(.t 7)]⟩,
  ⟨some 9, none, .ext (.t 8) 0⟩,
  ⟨some 10, none, .ext (.t 8) 1⟩,
  ⟨some 2, none, .mov (.t 9)⟩,
  ⟨some 3, none, .mov (.t 10)⟩])
  (.ret)
def c_bus_Bus_Next : C :=
 .seq (.ops [⟨some 2, none, .mov (.c (.int .i64 0))⟩,
  ⟨some 3, none, .mov (.c (.bool false))⟩])
  (c0_bus_Bus_Next)
def f_bus_Bus_Next : F := ⟨c_bus_Bus_Next, [.t 2, .t 3], some []⟩
theorem h_bus_Bus_Next : compF Tryz.prog (compAny Tryz.prog) n_bus_Bus_Next = some (f_bus_Bus_Next.body, f_bus_Bus_Next.res) := by kernel_rfl
def c0_pianolaref15_Bus_Next : C :=
 .seq (.ops [⟨some 11, none, .mov (.t 0)⟩,
  ⟨some 12, none, .nilc (.t 11)⟩,
  ⟨some 13, none, .fa 1 (.t 12)⟩,
  ⟨some 14, none, .fa 0 (.t 13)⟩,
  ⟨some 15, none, .ld (.t 14)⟩,
  ⟨some 16, none, .ia 3 (.t 15) (.c (.int .i64 0))⟩,
  ⟨some 17, none, .fa 0 (.t 16)⟩,
  ⟨some 18, none, .ld (.t 17)⟩,
  ⟨some 2, none, .mov (.t 18)⟩,
  ⟨some 3, none, .mov (.c (.bool true))⟩])
  (.ret)
def c1_pianolaref15_Bus_Next : C :=
 .seq (.seq (.ops [⟨some 4, none, .mov (.t 0)⟩,
  ⟨some 5, none, .nilc (.t 4)⟩,
  ⟨some 6, none, .fa 1 (.t 5)⟩,
  ⟨some 7, none, .fa 0 (.t 6)⟩,
  ⟨some 8, none, .ld (.t 7)⟩,
  ⟨some 9, none, .len 1 (.t 8)⟩,
  ⟨some 10, none, .bin .eql (.t 9) (.c (.int .i64 0))⟩])
  (.cond (.t 10)
  (.seq (.ops [⟨some 2, none, .mov (.c (.int .i64 0))⟩,
  ⟨some 3, none, .mov (.c (.bool false))⟩])
  (.ret))
  (.skip)))
  (c0_pianolaref15_Bus_Next)
def c_pianolaref15_Bus_Next : C :=
 .seq (.ops [⟨some 2, none, .mov (.c (.int .i64 0))⟩,
  ⟨some 3, none, .mov (.c (.bool false))⟩])
  (c1_pianolaref15_Bus_Next)
def f_pianolaref15_Bus_Next : F := ⟨c_pianolaref15_Bus_Next, [.t 2, .t 3], some []⟩
theorem h_pianolaref15_Bus_Next : compF Tryz.prog (compAny Tryz.prog) n_pianolaref15_Bus_Next = some (f_pianolaref15_Bus_Next.body, f_pianolaref15_Bus_Next.res) := by kernel_rfl
def c_bus_Bus_Raised : C :=
 .seq (.ops [⟨some 2, none, .mov (.c (.bool false))⟩])
  (.seq (.ops [⟨some 3, none, .mov (.t 0)⟩,
  ⟨some 4, none, .nilc (.t 3)⟩,
  ⟨some 5, none, .fa 2 (.t 4)⟩,
  ⟨some 6, none, .ld (.t 5)⟩,
  ⟨some 7, none, .call n_lines_Lines_Raised [(.t 6)]⟩,
  ⟨some 2, none, .mov (.t 7)⟩])
  (.ret))
def f_bus_Bus_Raised : F := ⟨c_bus_Bus_Raised, [.t 2], some []⟩
theorem h_bus_Bus_Raised : compF Tryz.prog (compAny Tryz.prog) n_bus_Bus_Raised = some (f_bus_Bus_Raised.body, f_bus_Bus_Raised.res) := by kernel_rfl
def c0_pianolaref15_Bus_Raised : C :=
 .seq (.any 0 [.op 0 ⟨some 3, none, .mov (.t 0)⟩,
  .op 1 ⟨some 4, none, .nilc (.t 3)⟩,
  .op 2 ⟨some 5, none, .fa 23 (.t 4)⟩,
  .op 3 ⟨some 6, none, .ld (.t 5)⟩,
  .op 4 ⟨some 7, none, .mov (.t 0)⟩,
  .op 5 ⟨some 8, none, .nilc (.t 7)⟩,
  .op 6 ⟨some 9, none, .fa 24 (.t 8)⟩,
  .op 7 ⟨some 10, none, .ld (.t 9)⟩,
  .op 8 ⟨some 11, none, .bin .and (.t 6) (.t 10)⟩,
  .op 9 ⟨some 12, none, .bin .neq (.t 11) (.c (.int .u32 0))⟩,
  .op 10 ⟨some 2, none, .mov (.t 12)⟩])
  (.ret)
def c_pianolaref15_Bus_Raised : C :=
 .seq (.ops [⟨some 2, none, .mov (.c (.bool false))⟩])
  (c0_pianolaref15_Bus_Raised)
def f_pianolaref15_Bus_Raised : F := ⟨c_pianolaref15_Bus_Raised, [.t 2], some []⟩
theorem h_pianolaref15_Bus_Raised : compF Tryz.prog (compAny Tryz.prog) n_pianolaref15_Bus_Raised = some (f_pianolaref15_Bus_Raised.body, f_pianolaref15_Bus_Raised.res) := by kernel_rfl
def c0_pianolabook_Same_api_Event : C :=
 .seq (.block 1
  (.seq (.any 0 [.op 0 ⟨some 17, none, .mov (.t 0)⟩,
  .op 1 ⟨some 18, none, .mov (.t 5)⟩,
  .op 2 ⟨some 19, none, .ia 3 (.t 17) (.t 18)⟩,
  .op 3 ⟨some 20, none, .ldn 3 (.t 19)⟩,
  .op 4 ⟨some 21, none, .mov (.t 1)⟩,
  .op 5 ⟨some 22, none, .mov (.t 5)⟩,
  .op 6 ⟨some 23, none, .ia 3 (.t 21) (.t 22)⟩,
  .op 7 ⟨some 24, none, .ldn 3 (.t 23)⟩,
  .op 8 ⟨some 25, none, .eqt true (.agg [(0, 1, false, (.int .i64)), (1, 1, false, (.int .i64)), (2, 1, false, (.int .i64))]) (.t 20) (.t 24)⟩])
  (.cond (.t 25)
  (.seq (.ops [⟨some 4, none, .mov (.c (.bool false))⟩])
  (.ret))
  (.skip))))
  (.ops [⟨some 15, none, .mov (.t 5)⟩,
  ⟨some 16, none, .bin .add (.t 15) (.c (.int .i64 1))⟩,
  ⟨some 5, none, .mov (.t 16)⟩])
def c1_pianolabook_Same_api_Event : C :=
 .seq (.seq (.ops [⟨some 11, none, .mov (.t 5)⟩,
  ⟨some 12, none, .mov (.t 0)⟩,
  ⟨some 13, none, .len 1 (.t 12)⟩,
  ⟨some 14, none, .bin .lss (.t 11) (.t 13)⟩])
  (.cond (.t 14)
  (.skip)
  (.exit 0)))
  (c0_pianolabook_Same_api_Event)
def c2_pianolabook_Same_api_Event : C :=
 .seq (.seq (.ops [⟨some 6, none, .mov (.t 0)⟩,
  ⟨some 7, none, .len 1 (.t 6)⟩,
  ⟨some 8, none, .mov (.t 1)⟩,
  ⟨some 9, none, .len 1 (.t 8)⟩,
  ⟨some 10, none, .bin .neq (.t 7) (.t 9)⟩])
  (.cond (.t 10)
  (.seq (.ops [⟨some 4, none, .mov (.c (.bool false))⟩])
  (.ret))
  (.skip)))
  (.seq (.seq (.ops [⟨some 5, none, .mov (.c (.int .i64 0))⟩])
  (.block 0
  (.loop c1_pianolabook_Same_api_Event)))
  (.seq (.ops [⟨some 4, none, .mov (.c (.bool true))⟩])
  (.ret)))
def c_pianolabook_Same_api_Event : C :=
 .seq (.ops [⟨some 4, none, .mov (.c (.bool false))⟩])
  (c2_pianolabook_Same_api_Event)
def f_pianolabook_Same_api_Event : F := ⟨c_pianolabook_Same_api_Event, [.t 4], some []⟩
theorem h_pianolabook_Same_api_Event : compF Tryz.prog (compAny Tryz.prog) n_pianolabook_Same_api_Event = some (f_pianolabook_Same_api_Event.body, f_pianolabook_Same_api_Event.res) := by kernel_rfl
def c_bus_Bus_Events : C :=
 .seq (.ops [⟨some 2, none, .mov (.c (.slice none 0 0))⟩])
  (.seq (.ops [⟨some 3, none, .mov (.t 0)⟩,
  ⟨some 4, none, .nilc (.t 3)⟩,
  ⟨some 5, none, .fa 1 (.t 4)⟩,
  ⟨some 6, none, .ld (.t 5)⟩,
  ⟨some 7, none, .call n_wheel_Wheel_All [(.t 6)]⟩,
  ⟨some 2, none, .mov (.t 7)⟩])
  (.ret))
def f_bus_Bus_Events : F := ⟨c_bus_Bus_Events, [.t 2], some []⟩
theorem h_bus_Bus_Events : compF Tryz.prog (compAny Tryz.prog) n_bus_Bus_Events = some (f_bus_Bus_Events.body, f_bus_Bus_Events.res) := by kernel_rfl
def c_bus_Bus_Out : C :=
 .seq (.ops [⟨some 2, none, .mov (.c (.slice none 0 0))⟩])
  (.seq (.ops [⟨some 3, none, .mov (.t 0)⟩,
  ⟨some 4, none, .nilc (.t 3)⟩,
  ⟨some 5, none, .fa 5 (.t 4)⟩,
  ⟨some 6, none, .ld (.t 5)⟩,
  ⟨some 7, none, .call n_uart_Uart_Out [(.t 6)]⟩,
  ⟨some 2, none, .mov (.t 7)⟩])
  (.ret))
def f_bus_Bus_Out : F := ⟨c_bus_Bus_Out, [.t 2], some []⟩
theorem h_bus_Bus_Out : compF Tryz.prog (compAny Tryz.prog) n_bus_Bus_Out = some (f_bus_Bus_Out.body, f_bus_Bus_Out.res) := by kernel_rfl
def c_bus_Bus_Disk : C :=
 .seq (.ops [⟨some 2, none, .mov (.c (.slice none 0 0))⟩])
  (.seq (.ops [⟨some 3, none, .mov (.t 0)⟩,
  ⟨some 4, none, .nilc (.t 3)⟩,
  ⟨some 5, none, .fa 7 (.t 4)⟩,
  ⟨some 6, none, .ld (.t 5)⟩,
  ⟨some 7, none, .call n_disk_Disk_Bytes [(.t 6)]⟩,
  ⟨some 2, none, .mov (.t 7)⟩])
  (.ret))
def f_bus_Bus_Disk : F := ⟨c_bus_Bus_Disk, [.t 2], some []⟩
theorem h_bus_Bus_Disk : compF Tryz.prog (compAny Tryz.prog) n_bus_Bus_Disk = some (f_bus_Bus_Disk.body, f_bus_Bus_Disk.res) := by kernel_rfl
def c0_wheel_Wheel_Take : C :=
 .seq (.ops [⟨some 14, none, .mov (.t 7)⟩,
  ⟨some 15, none, .un .not (.t 14)⟩,
  ⟨some 16, none, .mov (.t 15)⟩,
  ⟨some 17, some (16, false), .mov (.t 6)⟩,
  ⟨some 18, some (16, false), .mov (.t 1)⟩,
  ⟨some 19, some (16, false), .bin .gtr (.t 17) (.t 18)⟩,
  ⟨some 20, none, .pick (.t 16) (.c (.bool true)) (.t 19)⟩])
  (.cond (.t 20)
  (.seq (.ops [⟨some 21, none, .build [(.int .i64 0), (.int .i64 0), (.int .i64 0)] []⟩,
  ⟨none, none, .stn 3 (.t 4) (.t 21)⟩,
  ⟨some 5, none, .mov (.c (.bool false))⟩])
  (.ret))
  (.skip))
def c1_wheel_Wheel_Take : C :=
 .seq (.ops [⟨some 28, none, .mov (.t 0)⟩,
  ⟨some 29, none, .mov (.t 0)⟩,
  ⟨some 30, none, .nilc (.t 29)⟩,
  ⟨some 31, none, .fa 0 (.t 30)⟩,
  ⟨some 32, none, .ld (.t 31)⟩,
  ⟨some 33, none, .call n_slices_Delete_api_Event_api_Event [(.t 32), (.c (.int .i64 0)), (.c (.int .i64 1))]⟩,
  ⟨some 34, none, .nilc (.t 28)⟩,
  ⟨some 35, none, .fa 0 (.t 34)⟩,
  ⟨none, none, .st (.t 35) (.t 33)⟩])
  (.seq (.ops [⟨some 36, none, .ldn 3 (.t 8)⟩,
  ⟨none, none, .stn 3 (.t 4) (.t 36)⟩,
  ⟨some 5, none, .mov (.c (.bool true))⟩])
  (.ret))
def c2_wheel_Wheel_Take : C :=
 .seq (.ops [⟨some 22, none, .mov (.t 0)⟩,
  ⟨some 23, none, .nilc (.t 22)⟩,
  ⟨some 24, none, .fa 0 (.t 23)⟩,
  ⟨some 25, none, .ld (.t 24)⟩,
  ⟨some 26, none, .ia 3 (.t 25) (.c (.int .i64 0))⟩,
  ⟨some 27, none, .ldn 3 (.t 26)⟩,
  ⟨some 8, none, .new [(.int .i64 0), (.int .i64 0), (.int .i64 0)]⟩,
  ⟨none, none, .stn 3 (.t 8) (.t 27)⟩])
  (c1_wheel_Wheel_Take)
def c_wheel_Wheel_Take : C :=
 .seq (.ops [⟨some 4, none, .new [(.int .i64 0), (.int .i64 0), (.int .i64 0)]⟩,
  ⟨some 5, none, .mov (.c (.bool false))⟩])
  (.seq (.seq (.ops [⟨some 10, none, .mov (.t 0)⟩,
  ⟨some 11, none, .call n_wheel_Wheel_Next [(.t 10)]⟩,
  ⟨some 9, none, .mov (.t 11)⟩,
  ⟨some 12, none, .ext (.t 9) 0⟩,
  ⟨some 13, none, .ext (.t 9) 1⟩,
  ⟨some 6, none, .mov (.t 12)⟩,
  ⟨some 7, none, .mov (.t 13)⟩])
  (c0_wheel_Wheel_Take))
  (c2_wheel_Wheel_Take))
def f_wheel_Wheel_Take : F := ⟨c_wheel_Wheel_Take, [.ldn 3 4, .t 5], some []⟩
theorem h_wheel_Wheel_Take : compF Tryz.prog (compAny Tryz.prog) n_wheel_Wheel_Take = some (f_wheel_Wheel_Take.body, f_wheel_Wheel_Take.res) := by kernel_rfl
def c0_bus_Bus_fire : C :=
 .cond (.t 42)
  (.any 0 [.op 0 ⟨some 44, none, .mov (.t 0)⟩,
  .op 1 ⟨some 45, none, .nilc (.t 44)⟩,
  .op 2 ⟨some 46, none, .fa 7 (.t 45)⟩,
  .op 3 ⟨some 47, none, .ld (.t 46)⟩,
  .op 4 ⟨some 48, none, .fa 0 (.t 3)⟩,
  .op 5 ⟨some 49, none, .ld (.t 48)⟩,
  .op 6 ⟨some 50, none, .call n_disk_Disk_Fire [(.t 47), (.t 49)]⟩])
  (.skip)
def c1_bus_Bus_fire : C :=
 .cond (.t 33)
  (.any 0 [.op 0 ⟨some 35, none, .mov (.t 0)⟩,
  .op 1 ⟨some 36, none, .nilc (.t 35)⟩,
  .op 2 ⟨some 37, none, .fa 6 (.t 36)⟩,
  .op 3 ⟨some 38, none, .ld (.t 37)⟩,
  .op 4 ⟨some 39, none, .fa 0 (.t 3)⟩,
  .op 5 ⟨some 40, none, .ld (.t 39)⟩,
  .op 6 ⟨some 41, none, .call n_dma_Dma_Fire [(.t 38), (.t 40)]⟩])
  (.seq (.ops [⟨some 43, none, .bin .eql (.t 5) (.c (.int .i64 5))⟩,
  ⟨some 42, none, .mov (.t 43)⟩])
  (c0_bus_Bus_fire))
def c2_bus_Bus_fire : C :=
 .cond (.t 24)
  (.any 0 [.op 0 ⟨some 26, none, .mov (.t 0)⟩,
  .op 1 ⟨some 27, none, .nilc (.t 26)⟩,
  .op 2 ⟨some 28, none, .fa 5 (.t 27)⟩,
  .op 3 ⟨some 29, none, .ld (.t 28)⟩,
  .op 4 ⟨some 30, none, .fa 0 (.t 3)⟩,
  .op 5 ⟨some 31, none, .ld (.t 30)⟩,
  .op 6 ⟨some 32, none, .call n_uart_Uart_Fire [(.t 29), (.t 31)]⟩])
  (.seq (.ops [⟨some 34, none, .bin .eql (.t 5) (.c (.int .i64 4))⟩,
  ⟨some 33, none, .mov (.t 34)⟩])
  (c1_bus_Bus_fire))
def c3_bus_Bus_fire : C :=
 .cond (.t 15)
  (.any 0 [.op 0 ⟨some 17, none, .mov (.t 0)⟩,
  .op 1 ⟨some 18, none, .nilc (.t 17)⟩,
  .op 2 ⟨some 19, none, .fa 4 (.t 18)⟩,
  .op 3 ⟨some 20, none, .ld (.t 19)⟩,
  .op 4 ⟨some 21, none, .fa 0 (.t 3)⟩,
  .op 5 ⟨some 22, none, .ld (.t 21)⟩,
  .op 6 ⟨some 23, none, .call n_timer_Timer_Fire [(.t 20), (.t 22)]⟩])
  (.seq (.ops [⟨some 25, none, .bin .eql (.t 5) (.c (.int .i64 3))⟩,
  ⟨some 24, none, .mov (.t 25)⟩])
  (c2_bus_Bus_fire))
def c4_bus_Bus_fire : C :=
 .cond (.t 6)
  (.any 0 [.op 0 ⟨some 8, none, .mov (.t 0)⟩,
  .op 1 ⟨some 9, none, .nilc (.t 8)⟩,
  .op 2 ⟨some 10, none, .fa 3 (.t 9)⟩,
  .op 3 ⟨some 11, none, .ld (.t 10)⟩,
  .op 4 ⟨some 12, none, .fa 0 (.t 3)⟩,
  .op 5 ⟨some 13, none, .ld (.t 12)⟩,
  .op 6 ⟨some 14, none, .call n_timer_Timer_Fire [(.t 11), (.t 13)]⟩])
  (.seq (.ops [⟨some 16, none, .bin .eql (.t 5) (.c (.int .i64 2))⟩,
  ⟨some 15, none, .mov (.t 16)⟩])
  (c3_bus_Bus_fire))
def c_bus_Bus_fire : C :=
 .seq (.ops [⟨some 3, none, .box (.t 1)⟩])
  (.seq (.ops [⟨some 4, none, .fa 1 (.t 3)⟩,
  ⟨some 5, none, .ld (.t 4)⟩])
  (.block 0
  (.seq (.ops [⟨some 7, none, .bin .eql (.t 5) (.c (.int .i64 1))⟩,
  ⟨some 6, none, .mov (.t 7)⟩])
  (c4_bus_Bus_fire))))
def f_bus_Bus_fire : F := ⟨c_bus_Bus_fire, [], some []⟩
theorem h_bus_Bus_fire : compF Tryz.prog (compAny Tryz.prog) n_bus_Bus_fire = some (f_bus_Bus_fire.body, f_bus_Bus_fire.res) := by kernel_rfl
def c0_pianolaref9_Wheel_Take : C :=
 .seq (.ops [⟨some 31, none, .mov (.t 0)⟩,
  ⟨some 32, none, .bsl 0 [] []⟩,
  ⟨some 33, none, .mov (.t 0)⟩,
  ⟨some 34, none, .nilc (.t 33)⟩,
  ⟨some 35, none, .fa 0 (.t 34)⟩,
  ⟨some 36, none, .ld (.t 35)⟩,
  ⟨some 37, none, .sl 3 (.t 36) (some (.c (.int .i64 1))) none none⟩,
  ⟨some 38, none, .app 3 24 (.t 32) (.t 37)⟩,
  ⟨some 39, none, .nilc (.t 31)⟩,
  ⟨some 40, none, .fa 0 (.t 39)⟩,
  ⟨none, none, .st (.t 40) (.t 38)⟩])
  (.seq (.ops [⟨some 41, none, .ldn 3 (.t 6)⟩,
  ⟨none, none, .stn 3 (.t 4) (.t 41)⟩,
  ⟨some 5, none, .mov (.c (.bool true))⟩])
  (.ret))
def c1_pianolaref9_Wheel_Take : C :=
 .seq (.ops [⟨some 25, none, .mov (.t 0)⟩,
  ⟨some 26, none, .nilc (.t 25)⟩,
  ⟨some 27, none, .fa 0 (.t 26)⟩,
  ⟨some 28, none, .ld (.t 27)⟩,
  ⟨some 29, none, .ia 3 (.t 28) (.c (.int .i64 0))⟩,
  ⟨some 30, none, .ldn 3 (.t 29)⟩,
  ⟨some 6, none, .new [(.int .i64 0), (.int .i64 0), (.int .i64 0)]⟩,
  ⟨none, none, .stn 3 (.t 6) (.t 30)⟩])
  (c0_pianolaref9_Wheel_Take)
def c2_pianolaref9_Wheel_Take : C :=
 .seq (.seq (.ops [⟨some 7, none, .mov (.t 0)⟩,
  ⟨some 8, none, .nilc (.t 7)⟩,
  ⟨some 9, none, .fa 0 (.t 8)⟩,
  ⟨some 10, none, .ld (.t 9)⟩,
  ⟨some 11, none, .len 1 (.t 10)⟩,
  ⟨some 12, none, .bin .eql (.t 11) (.c (.int .i64 0))⟩,
  ⟨some 13, none, .mov (.t 12)⟩,
  ⟨some 14, some (13, false), .mov (.t 0)⟩,
  ⟨some 15, some (13, false), .nilc (.t 14)⟩,
  ⟨some 16, some (13, false), .fa 0 (.t 15)⟩,
  ⟨some 17, some (13, false), .ld (.t 16)⟩,
  ⟨some 18, some (13, false), .ia 3 (.t 17) (.c (.int .i64 0))⟩,
  ⟨some 19, some (13, false), .fa 0 (.t 18)⟩,
  ⟨some 20, some (13, false), .ld (.t 19)⟩,
  ⟨some 21, some (13, false), .mov (.t 1)⟩,
  ⟨some 22, some (13, false), .bin .gtr (.t 20) (.t 21)⟩,
  ⟨some 23, none, .pick (.t 13) (.c (.bool true)) (.t 22)⟩])
  (.cond (.t 23)
  (.seq (.ops [⟨some 24, none, .build [(.int .i64 0), (.int .i64 0), (.int .i64 0)] []⟩,
  ⟨none, none, .stn 3 (.t 4) (.t 24)⟩,
  ⟨some 5, none, .mov (.c (.bool false))⟩])
  (.ret))
  (.skip)))
  (c1_pianolaref9_Wheel_Take)
def c_pianolaref9_Wheel_Take : C :=
 .seq (.ops [⟨some 4, none, .new [(.int .i64 0), (.int .i64 0), (.int .i64 0)]⟩,
  ⟨some 5, none, .mov (.c (.bool false))⟩])
  (c2_pianolaref9_Wheel_Take)
def f_pianolaref9_Wheel_Take : F := ⟨c_pianolaref9_Wheel_Take, [.ldn 3 4, .t 5], some []⟩
theorem h_pianolaref9_Wheel_Take : compF Tryz.prog (compAny Tryz.prog) n_pianolaref9_Wheel_Take = some (f_pianolaref9_Wheel_Take.body, f_pianolaref9_Wheel_Take.res) := by kernel_rfl
def c0_pianolaref15_Bus_B1 : C :=
 .any 0 [.op 3 ⟨some 29, none, .fa 1 (.t 3)⟩,
  .op 4 ⟨some 30, none, .ld (.t 29)⟩,
  .op 5 ⟨some 31, none, .fa 0 (.t 3)⟩,
  .op 6 ⟨some 32, none, .ld (.t 31)⟩,
  .op 7 ⟨some 33, none, .mov (.t 4)⟩,
  .op 8 ⟨some 34, none, .nilc (.t 33)⟩,
  .op 9 ⟨some 35, none, .fa 1 (.t 34)⟩,
  .op 10 ⟨some 36, none, .ld (.t 35)⟩,
  .op 0 ⟨some 26, none, .mov (.t 0)⟩,
  .op 1 ⟨some 27, none, .nilc (.t 26)⟩,
  .op 2 ⟨some 28, none, .fa 1 (.t 27)⟩,
  .op 11 ⟨some 37, none, .conv .i64 (.t 36)⟩,
  .op 12 ⟨some 38, none, .mx (.t 37) (.c (.int .i64 1))⟩,
  .op 13 ⟨some 39, none, .bin .add (.t 32) (.t 38)⟩,
  .op 14 ⟨some 40, none, .call n_pianolaref9_Wheel_Arm [(.t 28), (.t 30), (.t 39)]⟩]
def c1_pianolaref15_Bus_B1 : C :=
 .ops [⟨some 41, none, .mov (.t 4)⟩,
  ⟨some 42, none, .mov (.t 4)⟩,
  ⟨some 43, none, .nilc (.t 42)⟩,
  ⟨some 44, none, .fa 0 (.t 43)⟩,
  ⟨some 45, none, .ld (.t 44)⟩,
  ⟨some 46, none, .bin .andNot (.t 45) (.c (.int .u32 1))⟩,
  ⟨some 47, none, .nilc (.t 41)⟩,
  ⟨some 48, none, .fa 0 (.t 47)⟩,
  ⟨none, none, .st (.t 48) (.t 46)⟩]
def c2_pianolaref15_Bus_B1 : C :=
 .seq (.ops [⟨some 17, none, .mov (.t 4)⟩,
  ⟨some 18, none, .nilc (.t 17)⟩,
  ⟨some 19, none, .fa 2 (.t 18)⟩,
  ⟨none, none, .st (.t 19) (.c (.int .u32 1))⟩])
  (.seq (.ops [⟨some 20, none, .mov (.t 4)⟩,
  ⟨some 21, none, .nilc (.t 20)⟩,
  ⟨some 22, none, .fa 0 (.t 21)⟩,
  ⟨some 23, none, .ld (.t 22)⟩,
  ⟨some 24, none, .bin .and (.t 23) (.c (.int .u32 2))⟩,
  ⟨some 25, none, .bin .neq (.t 24) (.c (.int .u32 0))⟩])
  (.cond (.t 25)
  (c0_pianolaref15_Bus_B1)
  (c1_pianolaref15_Bus_B1)))
def c3_pianolaref15_Bus_B1 : C :=
 .seq (.any 0 [.op 1 ⟨some 11, none, .fa 1 (.t 3)⟩,
  .op 2 ⟨some 12, none, .ld (.t 11)⟩,
  .op 0 ⟨some 10, none, .mov (.t 0)⟩,
  .op 3 ⟨some 13, none, .bin .sub (.t 12) (.c (.int .i64 1))⟩,
  .op 4 ⟨some 14, none, .nilc (.t 10)⟩,
  .op 5 ⟨some 15, none, .fa 3 (.t 14)⟩,
  .op 6 ⟨some 16, none, .iaa 2 3 (.t 15) (.t 13)⟩,
  .op 7 ⟨some 4, none, .mov (.t 16)⟩])
  (c2_pianolaref15_Bus_B1)
def c4_pianolaref15_Bus_B1 : C :=
 .any 1 [.op 1 ⟨some 66, none, .mov (.t 0)⟩,
  .op 2 ⟨some 67, none, .nilc (.t 66)⟩,
  .op 3 ⟨some 68, none, .fa 9 (.t 67)⟩,
  .op 4 ⟨some 69, none, .fa 4 (.t 68)⟩,
  .op 5 ⟨some 70, none, .ld (.t 69)⟩,
  .op 6 ⟨some 71, none, .mov (.t 0)⟩,
  .op 7 ⟨some 72, none, .nilc (.t 71)⟩,
  .op 8 ⟨some 73, none, .fa 9 (.t 72)⟩,
  .op 9 ⟨some 74, none, .fa 1 (.t 73)⟩,
  .op 10 ⟨some 75, none, .ld (.t 74)⟩,
  .op 11 ⟨some 76, none, .ia 1 (.t 75) (.c (.int .i64 0))⟩,
  .op 12 ⟨some 77, none, .ld (.t 76)⟩,
  .al 13 0 ⟨some 78, none, .bsl 1 [(.int .u8 0)] [(0, 1, (.t 77))]⟩,
  .op 14 ⟨some 79, none, .app 1 1 (.t 70) (.t 78)⟩,
  .op 0 ⟨some 65, none, .mov (.t 0)⟩,
  .op 15 ⟨some 80, none, .nilc (.t 65)⟩,
  .op 16 ⟨some 81, none, .fa 9 (.t 80)⟩,
  .op 17 ⟨some 82, none, .fa 4 (.t 81)⟩,
  .op 18 ⟨none, none, .st (.t 82) (.t 79)⟩]
def c5_pianolaref15_Bus_B1 : C :=
 .ops [⟨some 83, none, .mov (.t 0)⟩,
  ⟨some 84, none, .bsl 0 [] []⟩,
  ⟨some 85, none, .mov (.t 0)⟩,
  ⟨some 86, none, .nilc (.t 85)⟩,
  ⟨some 87, none, .fa 9 (.t 86)⟩,
  ⟨some 88, none, .fa 1 (.t 87)⟩,
  ⟨some 89, none, .ld (.t 88)⟩,
  ⟨some 90, none, .sl 1 (.t 89) (some (.c (.int .i64 1))) none none⟩,
  ⟨some 91, none, .app 1 1 (.t 84) (.t 90)⟩,
  ⟨some 92, none, .nilc (.t 83)⟩,
  ⟨some 93, none, .fa 9 (.t 92)⟩,
  ⟨some 94, none, .fa 1 (.t 93)⟩,
  ⟨none, none, .st (.t 94) (.t 91)⟩]
def c6_pianolaref15_Bus_B1 : C :=
 .seq (.seq (.ops [⟨some 58, none, .mov (.t 0)⟩,
  ⟨some 59, none, .nilc (.t 58)⟩,
  ⟨some 60, none, .fa 9 (.t 59)⟩,
  ⟨some 61, none, .fa 4 (.t 60)⟩,
  ⟨some 62, none, .ld (.t 61)⟩,
  ⟨some 63, none, .len 1 (.t 62)⟩,
  ⟨some 64, none, .bin .lss (.t 63) (.c (.int .i64 65536))⟩])
  (.cond (.t 64)
  (c4_pianolaref15_Bus_B1)
  (.skip)))
  (c5_pianolaref15_Bus_B1)
def c7_pianolaref15_Bus_B1 : C :=
 .any 0 [.op 3 ⟨some 105, none, .fa 0 (.t 3)⟩,
  .op 4 ⟨some 106, none, .ld (.t 105)⟩,
  .op 0 ⟨some 102, none, .mov (.t 0)⟩,
  .op 1 ⟨some 103, none, .nilc (.t 102)⟩,
  .op 2 ⟨some 104, none, .fa 1 (.t 103)⟩,
  .op 5 ⟨some 107, none, .bin .add (.t 106) (.c (.int .i64 8))⟩,
  .op 6 ⟨some 108, none, .call n_pianolaref9_Wheel_Arm [(.t 104), (.c (.int .i64 3)), (.t 107)]⟩]
def c8_pianolaref15_Bus_B1 : C :=
 .seq (.ops [⟨some 95, none, .mov (.t 0)⟩,
  ⟨some 96, none, .nilc (.t 95)⟩,
  ⟨some 97, none, .fa 9 (.t 96)⟩,
  ⟨some 98, none, .fa 1 (.t 97)⟩,
  ⟨some 99, none, .ld (.t 98)⟩,
  ⟨some 100, none, .len 1 (.t 99)⟩,
  ⟨some 101, none, .bin .gtr (.t 100) (.c (.int .i64 0))⟩])
  (.cond (.t 101)
  (c7_pianolaref15_Bus_B1)
  (.skip))
def c9_pianolaref15_Bus_B1 : C :=
 .seq (.seq (.ops [⟨some 51, none, .mov (.t 0)⟩,
  ⟨some 52, none, .nilc (.t 51)⟩,
  ⟨some 53, none, .fa 9 (.t 52)⟩,
  ⟨some 54, none, .fa 1 (.t 53)⟩,
  ⟨some 55, none, .ld (.t 54)⟩,
  ⟨some 56, none, .len 1 (.t 55)⟩,
  ⟨some 57, none, .bin .gtr (.t 56) (.c (.int .i64 0))⟩])
  (.cond (.t 57)
  (c6_pianolaref15_Bus_B1)
  (.skip)))
  (c8_pianolaref15_Bus_B1)
def c10_pianolaref15_Bus_B1 : C :=
 .cond (.t 109)
  (.ops [⟨some 111, none, .mov (.t 0)⟩,
  ⟨some 112, none, .call n_pianolaref15_Bus_move [(.t 111)]⟩])
  (.seq (.ops [⟨some 114, none, .bin .eql (.t 6) (.c (.int .i64 5))⟩,
  ⟨some 113, none, .mov (.t 114)⟩])
  (.cond (.t 113)
  (.ops [⟨some 115, none, .mov (.t 0)⟩,
  ⟨some 116, none, .call n_pianolaref15_Bus_sector [(.t 115)]⟩])
  (.skip)))
def c11_pianolaref15_Bus_B1 : C :=
 .block 0
  (.seq (.seq (.ops [⟨some 8, none, .bin .eql (.t 6) (.c (.int .i64 1))⟩,
  ⟨some 7, none, .mov (.t 8)⟩])
  (.cond (.t 7)
  (.skip)
  (.ops [⟨some 9, none, .bin .eql (.t 6) (.c (.int .i64 2))⟩,
  ⟨some 7, none, .mov (.t 9)⟩])))
  (.cond (.t 7)
  (c3_pianolaref15_Bus_B1)
  (.seq (.ops [⟨some 50, none, .bin .eql (.t 6) (.c (.int .i64 3))⟩,
  ⟨some 49, none, .mov (.t 50)⟩])
  (.cond (.t 49)
  (c9_pianolaref15_Bus_B1)
  (.seq (.ops [⟨some 110, none, .bin .eql (.t 6) (.c (.int .i64 4))⟩,
  ⟨some 109, none, .mov (.t 110)⟩])
  (c10_pianolaref15_Bus_B1))))))
def c_pianolaref15_Bus_B1 : C :=
 .seq (.ops [⟨some 3, none, .box (.t 1)⟩])
  (.seq (.ops [⟨some 5, none, .fa 1 (.t 3)⟩,
  ⟨some 6, none, .ld (.t 5)⟩])
  (c11_pianolaref15_Bus_B1))
def f_pianolaref15_Bus_B1 : F := ⟨c_pianolaref15_Bus_B1, [], some []⟩
theorem h_pianolaref15_Bus_B1 : compF Tryz.prog (compAny Tryz.prog) n_pianolaref15_Bus_B1 = some (f_pianolaref15_Bus_B1.body, f_pianolaref15_Bus_B1.res) := by kernel_rfl
def c_bus_Bus_Ram : C :=
 .seq (.ops [⟨some 2, none, .mov (.c (.pointer none))⟩])
  (.seq (.ops [⟨some 3, none, .mov (.t 0)⟩,
  ⟨some 4, none, .nilc (.t 3)⟩,
  ⟨some 5, none, .fa 0 (.t 4)⟩,
  ⟨some 6, none, .ld (.t 5)⟩,
  ⟨some 2, none, .mov (.t 6)⟩])
  (.ret))
def f_bus_Bus_Ram : F := ⟨c_bus_Bus_Ram, [.t 2], some []⟩
theorem h_bus_Bus_Ram : compF Tryz.prog (compAny Tryz.prog) n_bus_Bus_Ram = some (f_bus_Bus_Ram.body, f_bus_Bus_Ram.res) := by kernel_rfl
def c0_pianolabook_Within : C :=
 .seq (.seq (.ops [⟨some 22, none, .mov (.t 0)⟩,
  ⟨some 23, none, .bin .lss (.t 22) (.c (.int .i64 0))⟩])
  (.cond (.t 23)
  (.ops [⟨some 24, none, .mov (.t 0)⟩,
  ⟨some 25, none, .mov (.t 2)⟩,
  ⟨some 26, none, .bin .add (.t 24) (.t 25)⟩,
  ⟨some 27, none, .mov (.t 1)⟩,
  ⟨some 28, none, .bin .sub (.t 26) (.t 27)⟩,
  ⟨some 29, none, .bin .add (.t 28) (.c (.int .i64 1))⟩,
  ⟨some 0, none, .mov (.t 29)⟩])
  (.skip)))
  (.seq (.ops [⟨some 30, none, .mov (.t 1)⟩,
  ⟨some 31, none, .mov (.t 0)⟩,
  ⟨some 32, none, .bin .add (.t 30) (.t 31)⟩,
  ⟨some 6, none, .mov (.t 32)⟩])
  (.ret))
def c1_pianolabook_Within : C :=
 .seq (.seq (.ops [⟨some 7, none, .mov (.t 0)⟩,
  ⟨some 8, none, .mov (.t 1)⟩,
  ⟨some 9, none, .bin .geq (.t 7) (.t 8)⟩,
  ⟨some 10, none, .mov (.t 9)⟩,
  ⟨some 11, some (10, true), .mov (.t 0)⟩,
  ⟨some 12, some (10, true), .mov (.t 2)⟩,
  ⟨some 13, some (10, true), .bin .leq (.t 11) (.t 12)⟩,
  ⟨some 14, none, .pick (.t 10) (.t 13) (.c (.bool false))⟩])
  (.cond (.t 14)
  (.seq (.ops [⟨some 15, none, .mov (.t 0)⟩,
  ⟨some 6, none, .mov (.t 15)⟩])
  (.ret))
  (.skip)))
  (.seq (.ops [⟨some 16, none, .mov (.t 0)⟩,
  ⟨some 17, none, .mov (.t 2)⟩,
  ⟨some 18, none, .mov (.t 1)⟩,
  ⟨some 19, none, .bin .sub (.t 17) (.t 18)⟩,
  ⟨some 20, none, .bin .add (.t 19) (.c (.int .i64 1))⟩,
  ⟨some 21, none, .bin .rem (.t 16) (.t 20)⟩,
  ⟨some 0, none, .mov (.t 21)⟩])
  (c0_pianolabook_Within))
def c_pianolabook_Within : C :=
 .seq (.ops [⟨some 6, none, .mov (.c (.int .i64 0))⟩])
  (c1_pianolabook_Within)
def f_pianolabook_Within : F := ⟨c_pianolabook_Within, [.t 6], some []⟩
theorem h_pianolabook_Within : compF Tryz.prog (compAny Tryz.prog) n_pianolabook_Within = some (f_pianolabook_Within.body, f_pianolabook_Within.res) := by kernel_rfl
def c0_ram_Ram_Bytes : C :=
 .seq (.ops [⟨some 13, none, .mov (.t 0)⟩,
  ⟨some 14, none, .nilc (.t 13)⟩,
  ⟨some 15, none, .fa 0 (.t 14)⟩,
  ⟨some 16, none, .ld (.t 15)⟩,
  ⟨some 17, none, .mov (.t 1)⟩,
  ⟨some 18, none, .mov (.t 1)⟩,
  ⟨some 19, none, .conv .i64 (.t 18)⟩,
  ⟨some 20, none, .mov (.t 2)⟩,
  ⟨some 21, none, .bin .add (.t 19) (.t 20)⟩,
  ⟨some 22, none, .sl 1 (.t 16) (some (.t 17)) (some (.t 21)) none⟩,
  ⟨some 23, none, .call n_slices_Clone_byte_byte [(.t 22)]⟩,
  ⟨some 6, none, .mov (.t 23)⟩,
  ⟨some 7, none, .mov (.c (.bool true))⟩])
  (.ret)
def c1_ram_Ram_Bytes : C :=
 .seq (.seq (.ops [⟨some 8, none, .mov (.t 0)⟩,
  ⟨some 9, none, .mov (.t 1)⟩,
  ⟨some 10, none, .mov (.t 2)⟩,
  ⟨some 11, none, .call n_ram_Ram_there [(.t 8), (.t 9), (.t 10)]⟩,
  ⟨some 12, none, .un .not (.t 11)⟩])
  (.cond (.t 12)
  (.seq (.ops [⟨some 6, none, .mov (.c (.slice none 0 0))⟩,
  ⟨some 7, none, .mov (.c (.bool false))⟩])
  (.ret))
  (.skip)))
  (c0_ram_Ram_Bytes)
def c_ram_Ram_Bytes : C :=
 .seq (.ops [⟨some 6, none, .mov (.c (.slice none 0 0))⟩,
  ⟨some 7, none, .mov (.c (.bool false))⟩])
  (c1_ram_Ram_Bytes)
def f_ram_Ram_Bytes : F := ⟨c_ram_Ram_Bytes, [.t 6, .t 7], some []⟩
theorem h_ram_Ram_Bytes : compF Tryz.prog (compAny Tryz.prog) n_ram_Ram_Bytes = some (f_ram_Ram_Bytes.body, f_ram_Ram_Bytes.res) := by kernel_rfl
def c0_ram_Ram_there : C :=
 .seq (.ops [⟨some 7, none, .mov (.t 2)⟩,
  ⟨some 8, none, .bin .geq (.t 7) (.c (.int .i64 0))⟩,
  ⟨some 9, none, .mov (.t 8)⟩,
  ⟨some 10, some (9, true), .mov (.t 1)⟩,
  ⟨some 11, some (9, true), .conv .i64 (.t 10)⟩,
  ⟨some 12, some (9, true), .mov (.t 0)⟩,
  ⟨some 13, some (9, true), .nilc (.t 12)⟩,
  ⟨some 14, some (9, true), .fa 0 (.t 13)⟩,
  ⟨some 15, some (9, true), .ld (.t 14)⟩,
  ⟨some 16, some (9, true), .len 1 (.t 15)⟩,
  ⟨some 17, some (9, true), .bin .leq (.t 11) (.t 16)⟩,
  ⟨some 18, none, .pick (.t 9) (.t 17) (.c (.bool false))⟩,
  ⟨some 19, none, .mov (.t 18)⟩,
  ⟨some 20, some (19, true), .mov (.t 2)⟩,
  ⟨some 21, some (19, true), .mov (.t 0)⟩,
  ⟨some 22, some (19, true), .nilc (.t 21)⟩,
  ⟨some 23, some (19, true), .fa 0 (.t 22)⟩,
  ⟨some 24, some (19, true), .ld (.t 23)⟩,
  ⟨some 25, some (19, true), .len 1 (.t 24)⟩,
  ⟨some 26, some (19, true), .mov (.t 1)⟩,
  ⟨some 27, some (19, true), .conv .i64 (.t 26)⟩,
  ⟨some 28, some (19, true), .bin .sub (.t 25) (.t 27)⟩,
  ⟨some 29, some (19, true), .bin .leq (.t 20) (.t 28)⟩,
  ⟨some 30, none, .pick (.t 19) (.t 29) (.c (.bool false))⟩,
  ⟨some 6, none, .mov (.t 30)⟩])
  (.ret)
def c_ram_Ram_there : C :=
 .seq (.ops [⟨some 6, none, .mov (.c (.bool false))⟩])
  (c0_ram_Ram_there)
def f_ram_Ram_there : F := ⟨c_ram_Ram_there, [.t 6], some []⟩
theorem h_ram_Ram_there : compF Tryz.prog (compAny Tryz.prog) n_ram_Ram_there = some (f_ram_Ram_there.body, f_ram_Ram_there.res) := by kernel_rfl
def c0_ram_Ram_touch : C :=
 .seq (.block 1
  (.any 0 [.op 0 ⟨some 22, none, .mov (.t 0)⟩,
  .op 1 ⟨some 23, none, .nilc (.t 22)⟩,
  .op 2 ⟨some 24, none, .fa 2 (.t 23)⟩,
  .op 3 ⟨some 25, none, .ld (.t 24)⟩,
  .op 5 ⟨some 27, none, .mov (.t 0)⟩,
  .op 6 ⟨some 28, none, .nilc (.t 27)⟩,
  .op 7 ⟨some 29, none, .fa 2 (.t 28)⟩,
  .op 8 ⟨some 30, none, .ld (.t 29)⟩,
  .op 9 ⟨some 31, none, .mov (.t 6)⟩,
  .op 10 ⟨some 32, none, .ia 1 (.t 30) (.t 31)⟩,
  .op 11 ⟨some 33, none, .ld (.t 32)⟩,
  .op 12 ⟨some 34, none, .mov (.t 33)⟩,
  .op 13 ⟨some 35, some (34, false), .mov (.t 0)⟩,
  .op 14 ⟨some 36, some (34, false), .nilc (.t 35)⟩,
  .op 15 ⟨some 37, some (34, false), .fa 1 (.t 36)⟩,
  .op 16 ⟨some 38, some (34, false), .ld (.t 37)⟩,
  .op 17 ⟨some 39, some (34, false), .mov (.t 6)⟩,
  .op 18 ⟨some 40, some (34, false), .ia 1 (.t 38) (.t 39)⟩,
  .op 19 ⟨some 41, some (34, false), .ld (.t 40)⟩,
  .op 4 ⟨some 26, none, .mov (.t 6)⟩,
  .op 20 ⟨some 42, none, .pick (.t 34) (.c (.bool true)) (.t 41)⟩,
  .op 21 ⟨some 43, none, .ia 1 (.t 25) (.t 26)⟩,
  .op 22 ⟨none, none, .st (.t 43) (.t 42)⟩]))
  (.ops [⟨some 20, none, .mov (.t 6)⟩,
  ⟨some 21, none, .bin .add (.t 20) (.c (.int .i64 1))⟩,
  ⟨some 6, none, .mov (.t 21)⟩])
def c1_ram_Ram_touch : C :=
 .seq (.seq (.ops [⟨some 12, none, .mov (.t 6)⟩,
  ⟨some 13, none, .mov (.t 1)⟩,
  ⟨some 14, none, .conv .i64 (.t 13)⟩,
  ⟨some 15, none, .mov (.t 2)⟩,
  ⟨some 16, none, .bin .add (.t 14) (.t 15)⟩,
  ⟨some 17, none, .bin .sub (.t 16) (.c (.int .i64 1))⟩,
  ⟨some 18, none, .bin .quo (.t 17) (.c (.int .i64 1024))⟩,
  ⟨some 19, none, .bin .leq (.t 12) (.t 18)⟩])
  (.cond (.t 19)
  (.skip)
  (.exit 0)))
  (c0_ram_Ram_touch)
def c_ram_Ram_touch : C :=
 .seq (.seq (.ops [⟨some 7, none, .mov (.t 2)⟩,
  ⟨some 8, none, .bin .lss (.t 7) (.c (.int .i64 1))⟩])
  (.cond (.t 8)
  (.ret)
  (.skip)))
  (.seq (.ops [⟨some 9, none, .mov (.t 1)⟩,
  ⟨some 10, none, .conv .i64 (.t 9)⟩,
  ⟨some 11, none, .bin .quo (.t 10) (.c (.int .i64 1024))⟩,
  ⟨some 6, none, .mov (.t 11)⟩])
  (.block 0
  (.loop c1_ram_Ram_touch)))
def f_ram_Ram_touch : F := ⟨c_ram_Ram_touch, [], some []⟩
theorem h_ram_Ram_touch : compF Tryz.prog (compAny Tryz.prog) n_ram_Ram_touch = some (f_ram_Ram_touch.body, f_ram_Ram_touch.res) := by kernel_rfl
def c0_ram_Ram_even : C :=
 .seq (.ops [⟨some 7, none, .mov (.t 2)⟩,
  ⟨some 8, none, .bin .eql (.t 7) (.c (.int .i64 1))⟩,
  ⟨some 9, none, .mov (.t 8)⟩,
  ⟨some 10, some (9, false), .mov (.t 2)⟩,
  ⟨some 11, some (9, false), .bin .eql (.t 10) (.c (.int .i64 2))⟩,
  ⟨some 12, none, .pick (.t 9) (.c (.bool true)) (.t 11)⟩,
  ⟨some 13, none, .mov (.t 12)⟩,
  ⟨some 14, some (13, false), .mov (.t 2)⟩,
  ⟨some 15, some (13, false), .bin .eql (.t 14) (.c (.int .i64 4))⟩,
  ⟨some 16, none, .pick (.t 13) (.c (.bool true)) (.t 15)⟩,
  ⟨some 17, none, .mov (.t 16)⟩,
  ⟨some 18, some (17, true), .mov (.t 1)⟩,
  ⟨some 19, some (17, true), .mov (.t 2)⟩,
  ⟨some 20, some (17, true), .conv .u32 (.t 19)⟩,
  ⟨some 21, some (17, true), .bin .rem (.t 18) (.t 20)⟩,
  ⟨some 22, some (17, true), .bin .eql (.t 21) (.c (.int .u32 0))⟩,
  ⟨some 23, none, .pick (.t 17) (.t 22) (.c (.bool false))⟩,
  ⟨some 24, none, .mov (.t 23)⟩,
  ⟨some 25, some (24, true), .mov (.t 0)⟩,
  ⟨some 26, some (24, true), .mov (.t 1)⟩,
  ⟨some 27, some (24, true), .mov (.t 2)⟩,
  ⟨some 28, some (24, true), .call n_ram_Ram_there [(.t 25), (.t 26), (.t 27)]⟩,
  ⟨some 29, none, .pick (.t 24) (.t 28) (.c (.bool false))⟩,
  ⟨some 6, none, .mov (.t 29)⟩])
  (.ret)
def c_ram_Ram_even : C :=
 .seq (.ops [⟨some 6, none, .mov (.c (.bool false))⟩])
  (c0_ram_Ram_even)
def f_ram_Ram_even : F := ⟨c_ram_Ram_even, [.t 6], some []⟩
theorem h_ram_Ram_even : compF Tryz.prog (compAny Tryz.prog) n_ram_Ram_even = some (f_ram_Ram_even.body, f_ram_Ram_even.res) := by kernel_rfl
def c0_lines_Lines_Read : C :=
 .seq (.ops [⟨some 26, none, .bin .eql (.t 8) (.c (.int .u32 12))⟩,
  ⟨some 25, none, .mov (.t 26)⟩])
  (.cond (.t 25)
  (.seq (.ops [⟨some 27, none, .mov (.t 2)⟩,
  ⟨some 28, none, .bin .shr (.t 27) (.c (.int .u64 32))⟩,
  ⟨some 29, none, .conv .u32 (.t 28)⟩,
  ⟨some 6, none, .mov (.t 29)⟩,
  ⟨some 7, none, .mov (.c (.bool true))⟩])
  (.ret))
  (.skip))
def c1_lines_Lines_Read : C :=
 .cond (.t 15)
  (.seq (.ops [⟨some 17, none, .mov (.t 0)⟩,
  ⟨some 18, none, .nilc (.t 17)⟩,
  ⟨some 19, none, .fa 1 (.t 18)⟩,
  ⟨some 20, none, .ld (.t 19)⟩,
  ⟨some 6, none, .mov (.t 20)⟩,
  ⟨some 7, none, .mov (.c (.bool true))⟩])
  (.ret))
  (.seq (.ops [⟨some 22, none, .bin .eql (.t 8) (.c (.int .u32 8))⟩,
  ⟨some 21, none, .mov (.t 22)⟩])
  (.cond (.t 21)
  (.seq (.ops [⟨some 23, none, .mov (.t 2)⟩,
  ⟨some 24, none, .conv .u32 (.t 23)⟩,
  ⟨some 6, none, .mov (.t 24)⟩,
  ⟨some 7, none, .mov (.c (.bool true))⟩])
  (.ret))
  (c0_lines_Lines_Read)))
def c2_lines_Lines_Read : C :=
 .cond (.t 9)
  (.seq (.ops [⟨some 11, none, .mov (.t 0)⟩,
  ⟨some 12, none, .nilc (.t 11)⟩,
  ⟨some 13, none, .fa 0 (.t 12)⟩,
  ⟨some 14, none, .ld (.t 13)⟩,
  ⟨some 6, none, .mov (.t 14)⟩,
  ⟨some 7, none, .mov (.c (.bool true))⟩])
  (.ret))
  (.seq (.ops [⟨some 16, none, .bin .eql (.t 8) (.c (.int .u32 4))⟩,
  ⟨some 15, none, .mov (.t 16)⟩])
  (c1_lines_Lines_Read))
def c_lines_Lines_Read : C :=
 .seq (.ops [⟨some 6, none, .mov (.c (.int .u32 0))⟩,
  ⟨some 7, none, .mov (.c (.bool false))⟩])
  (.seq (.seq (.ops [⟨some 8, none, .mov (.t 1)⟩])
  (.block 0
  (.seq (.ops [⟨some 10, none, .bin .eql (.t 8) (.c (.int .u32 0))⟩,
  ⟨some 9, none, .mov (.t 10)⟩])
  (c2_lines_Lines_Read))))
  (.seq (.ops [⟨some 6, none, .mov (.c (.int .u32 0))⟩,
  ⟨some 7, none, .mov (.c (.bool false))⟩])
  (.ret)))
def f_lines_Lines_Read : F := ⟨c_lines_Lines_Read, [.t 6, .t 7], some []⟩
theorem h_lines_Lines_Read : compF Tryz.prog (compAny Tryz.prog) n_lines_Lines_Read = some (f_lines_Lines_Read.body, f_lines_Lines_Read.res) := by kernel_rfl
end Go.Proofs.YtpdfdemoflofhaaGreat.Cd

set_option maxRecDepth 100000
set_option linter.defProp false
namespace Go.Proofs.YtpdfdemoflofhaaGreat.Cd
open Go Go.Dx
def c0_timer_Timer_Read : C :=
 .seq (.ops [⟨some 20, none, .bin .eql (.t 6) (.c (.int .u32 8))⟩,
  ⟨some 19, none, .mov (.t 20)⟩])
  (.cond (.t 19)
  (.seq (.ops [⟨some 21, none, .mov (.t 0)⟩,
  ⟨some 22, none, .nilc (.t 21)⟩,
  ⟨some 23, none, .fa 4 (.t 22)⟩,
  ⟨some 24, none, .ld (.t 23)⟩,
  ⟨some 4, none, .mov (.t 24)⟩,
  ⟨some 5, none, .mov (.c (.bool true))⟩])
  (.ret))
  (.skip))
def c1_timer_Timer_Read : C :=
 .seq (.ops [⟨some 14, none, .bin .eql (.t 6) (.c (.int .u32 4))⟩,
  ⟨some 13, none, .mov (.t 14)⟩])
  (.cond (.t 13)
  (.seq (.ops [⟨some 15, none, .mov (.t 0)⟩,
  ⟨some 16, none, .nilc (.t 15)⟩,
  ⟨some 17, none, .fa 3 (.t 16)⟩,
  ⟨some 18, none, .ld (.t 17)⟩,
  ⟨some 4, none, .mov (.t 18)⟩,
  ⟨some 5, none, .mov (.c (.bool true))⟩])
  (.ret))
  (c0_timer_Timer_Read))
def c2_timer_Timer_Read : C :=
 .block 0
  (.seq (.ops [⟨some 8, none, .bin .eql (.t 6) (.c (.int .u32 0))⟩,
  ⟨some 7, none, .mov (.t 8)⟩])
  (.cond (.t 7)
  (.seq (.ops [⟨some 9, none, .mov (.t 0)⟩,
  ⟨some 10, none, .nilc (.t 9)⟩,
  ⟨some 11, none, .fa 2 (.t 10)⟩,
  ⟨some 12, none, .ld (.t 11)⟩,
  ⟨some 4, none, .mov (.t 12)⟩,
  ⟨some 5, none, .mov (.c (.bool true))⟩])
  (.ret))
  (c1_timer_Timer_Read)))
def c_timer_Timer_Read : C :=
 .seq (.ops [⟨some 4, none, .mov (.c (.int .u32 0))⟩,
  ⟨some 5, none, .mov (.c (.bool false))⟩])
  (.seq (.seq (.ops [⟨some 6, none, .mov (.t 1)⟩])
  (c2_timer_Timer_Read))
  (.seq (.ops [⟨some 4, none, .mov (.c (.int .u32 0))⟩,
  ⟨some 5, none, .mov (.c (.bool false))⟩])
  (.ret)))
def f_timer_Timer_Read : F := ⟨c_timer_Timer_Read, [.t 4, .t 5], some []⟩
theorem h_timer_Timer_Read : compF Tryz.prog (compAny Tryz.prog) n_timer_Timer_Read = some (f_timer_Timer_Read.body, f_timer_Timer_Read.res) := by kernel_rfl
def c0_uart_Uart_Read : C :=
 .seq (.seq (.ops [⟨some 12, none, .mov (.t 0)⟩,
  ⟨some 13, none, .nilc (.t 12)⟩,
  ⟨some 14, none, .fa 2 (.t 13)⟩,
  ⟨some 15, none, .ld (.t 14)⟩,
  ⟨some 16, none, .call n_uart_take [(.t 15)]⟩,
  ⟨some 11, none, .mov (.t 16)⟩,
  ⟨some 17, none, .ext (.t 11) 0⟩,
  ⟨some 18, none, .ext (.t 11) 1⟩,
  ⟨some 6, none, .mov (.t 17)⟩,
  ⟨some 7, none, .mov (.t 18)⟩])
  (.seq (.ops [⟨some 19, none, .mov (.t 7)⟩])
  (.cond (.t 19)
  (.seq (.ops [⟨some 20, none, .mov (.t 6)⟩,
  ⟨some 21, none, .conv .u32 (.t 20)⟩,
  ⟨some 4, none, .mov (.t 21)⟩,
  ⟨some 5, none, .mov (.c (.bool true))⟩])
  (.ret))
  (.skip))))
  (.seq (.ops [⟨some 4, none, .mov (.c (.int .u32 256))⟩,
  ⟨some 5, none, .mov (.c (.bool true))⟩])
  (.ret))
def c1_uart_Uart_Read : C :=
 .seq (.any 0 [.op 0 ⟨some 24, none, .mov (.t 0)⟩,
  .op 1 ⟨some 25, none, .nilc (.t 24)⟩,
  .op 2 ⟨some 26, none, .fa 2 (.t 25)⟩,
  .op 3 ⟨some 27, none, .ld (.t 26)⟩,
  .op 4 ⟨some 28, none, .len 3 (.t 27)⟩,
  .op 7 ⟨some 31, none, .mov (.t 0)⟩,
  .op 8 ⟨some 32, none, .nilc (.t 31)⟩,
  .op 9 ⟨some 33, none, .fa 3 (.t 32)⟩,
  .op 10 ⟨some 34, none, .ld (.t 33)⟩,
  .op 15 ⟨some 39, none, .mov (.t 0)⟩,
  .op 16 ⟨some 40, none, .nilc (.t 39)⟩,
  .op 17 ⟨some 41, none, .fa 4 (.t 40)⟩,
  .op 18 ⟨some 42, none, .ld (.t 41)⟩,
  .op 21 ⟨some 45, none, .mov (.t 0)⟩,
  .op 22 ⟨some 46, none, .nilc (.t 45)⟩,
  .op 23 ⟨some 47, none, .fa 3 (.t 46)⟩,
  .op 24 ⟨some 48, none, .ld (.t 47)⟩,
  .op 5 ⟨some 29, none, .bin .gtr (.t 28) (.c (.int .i64 0))⟩,
  .op 6 ⟨some 30, none, .call n_uart_bit [(.t 29), (.c (.int .u32 1))]⟩,
  .re 10 ⟨some 34, none, .ld (.t 33)⟩,
  .re 18 ⟨some 42, none, .ld (.t 41)⟩,
  .re 24 ⟨some 48, none, .ld (.t 47)⟩,
  .op 11 ⟨some 35, none, .len 3 (.t 34)⟩,
  .op 12 ⟨some 36, none, .bin .eql (.t 35) (.c (.int .i64 16))⟩,
  .op 13 ⟨some 37, none, .call n_uart_bit [(.t 36), (.c (.int .u32 2))]⟩,
  .re 18 ⟨some 42, none, .ld (.t 41)⟩,
  .re 24 ⟨some 48, none, .ld (.t 47)⟩,
  .op 19 ⟨some 43, none, .call n_uart_bit [(.t 42), (.c (.int .u32 4))]⟩,
  .re 24 ⟨some 48, none, .ld (.t 47)⟩,
  .op 25 ⟨some 49, none, .len 3 (.t 48)⟩,
  .op 26 ⟨some 50, none, .bin .eql (.t 49) (.c (.int .i64 0))⟩,
  .op 27 ⟨some 51, none, .call n_uart_bit [(.t 50), (.c (.int .u32 8))]⟩,
  .op 14 ⟨some 38, none, .bin .or (.t 30) (.t 37)⟩,
  .op 20 ⟨some 44, none, .bin .or (.t 38) (.t 43)⟩,
  .op 28 ⟨some 52, none, .bin .or (.t 44) (.t 51)⟩,
  .op 29 ⟨some 4, none, .mov (.t 52)⟩,
  .op 30 ⟨some 5, none, .mov (.c (.bool true))⟩])
  (.ret)
def c2_uart_Uart_Read : C :=
 .seq (.ops [⟨some 54, none, .bin .eql (.t 8) (.c (.int .u32 8))⟩,
  ⟨some 53, none, .mov (.t 54)⟩])
  (.cond (.t 53)
  (.seq (.ops [⟨some 55, none, .mov (.t 0)⟩,
  ⟨some 56, none, .nilc (.t 55)⟩,
  ⟨some 57, none, .fa 5 (.t 56)⟩,
  ⟨some 58, none, .ld (.t 57)⟩,
  ⟨some 4, none, .mov (.t 58)⟩,
  ⟨some 5, none, .mov (.c (.bool true))⟩])
  (.ret))
  (.skip))
def c3_uart_Uart_Read : C :=
 .seq (.seq (.ops [⟨some 8, none, .mov (.t 1)⟩])
  (.block 0
  (.seq (.ops [⟨some 10, none, .bin .eql (.t 8) (.c (.int .u32 0))⟩,
  ⟨some 9, none, .mov (.t 10)⟩])
  (.cond (.t 9)
  (c0_uart_Uart_Read)
  (.seq (.ops [⟨some 23, none, .bin .eql (.t 8) (.c (.int .u32 4))⟩,
  ⟨some 22, none, .mov (.t 23)⟩])
  (.cond (.t 22)
  (c1_uart_Uart_Read)
  (c2_uart_Uart_Read)))))))
  (.seq (.ops [⟨some 4, none, .mov (.c (.int .u32 0))⟩,
  ⟨some 5, none, .mov (.c (.bool false))⟩])
  (.ret))
def c_uart_Uart_Read : C :=
 .seq (.ops [⟨some 4, none, .mov (.c (.int .u32 0))⟩,
  ⟨some 5, none, .mov (.c (.bool false))⟩])
  (c3_uart_Uart_Read)
def f_uart_Uart_Read : F := ⟨c_uart_Uart_Read, [.t 4, .t 5], some []⟩
theorem h_uart_Uart_Read : compF Tryz.prog (compAny Tryz.prog) n_uart_Uart_Read = some (f_uart_Uart_Read.body, f_uart_Uart_Read.res) := by kernel_rfl
def c0_dma_Dma_Read : C :=
 .seq (.ops [⟨some 28, none, .bin .eql (.t 6) (.c (.int .u32 16))⟩,
  ⟨some 27, none, .mov (.t 28)⟩])
  (.cond (.t 27)
  (.seq (.ops [⟨some 29, none, .mov (.t 0)⟩,
  ⟨some 30, none, .nilc (.t 29)⟩,
  ⟨some 31, none, .fa 6 (.t 30)⟩,
  ⟨some 32, none, .ld (.t 31)⟩,
  ⟨some 4, none, .mov (.t 32)⟩,
  ⟨some 5, none, .mov (.c (.bool true))⟩])
  (.ret))
  (.skip))
def c1_dma_Dma_Read : C :=
 .cond (.t 19)
  (.seq (.ops [⟨some 21, none, .mov (.t 0)⟩,
  ⟨some 22, none, .nilc (.t 21)⟩,
  ⟨some 23, none, .fa 5 (.t 22)⟩,
  ⟨some 24, none, .ld (.t 23)⟩,
  ⟨some 4, none, .mov (.t 24)⟩,
  ⟨some 5, none, .mov (.c (.bool true))⟩])
  (.ret))
  (.seq (.ops [⟨some 26, none, .bin .eql (.t 6) (.c (.int .u32 12))⟩,
  ⟨some 25, none, .mov (.t 26)⟩])
  (.cond (.t 25)
  (.seq (.ops [⟨some 4, none, .mov (.c (.int .u32 0))⟩,
  ⟨some 5, none, .mov (.c (.bool true))⟩])
  (.ret))
  (c0_dma_Dma_Read)))
def c2_dma_Dma_Read : C :=
 .cond (.t 13)
  (.seq (.ops [⟨some 15, none, .mov (.t 0)⟩,
  ⟨some 16, none, .nilc (.t 15)⟩,
  ⟨some 17, none, .fa 4 (.t 16)⟩,
  ⟨some 18, none, .ld (.t 17)⟩,
  ⟨some 4, none, .mov (.t 18)⟩,
  ⟨some 5, none, .mov (.c (.bool true))⟩])
  (.ret))
  (.seq (.ops [⟨some 20, none, .bin .eql (.t 6) (.c (.int .u32 8))⟩,
  ⟨some 19, none, .mov (.t 20)⟩])
  (c1_dma_Dma_Read))
def c3_dma_Dma_Read : C :=
 .cond (.t 7)
  (.seq (.ops [⟨some 9, none, .mov (.t 0)⟩,
  ⟨some 10, none, .nilc (.t 9)⟩,
  ⟨some 11, none, .fa 3 (.t 10)⟩,
  ⟨some 12, none, .ld (.t 11)⟩,
  ⟨some 4, none, .mov (.t 12)⟩,
  ⟨some 5, none, .mov (.c (.bool true))⟩])
  (.ret))
  (.seq (.ops [⟨some 14, none, .bin .eql (.t 6) (.c (.int .u32 4))⟩,
  ⟨some 13, none, .mov (.t 14)⟩])
  (c2_dma_Dma_Read))
def c_dma_Dma_Read : C :=
 .seq (.ops [⟨some 4, none, .mov (.c (.int .u32 0))⟩,
  ⟨some 5, none, .mov (.c (.bool false))⟩])
  (.seq (.seq (.ops [⟨some 6, none, .mov (.t 1)⟩])
  (.block 0
  (.seq (.ops [⟨some 8, none, .bin .eql (.t 6) (.c (.int .u32 0))⟩,
  ⟨some 7, none, .mov (.t 8)⟩])
  (c3_dma_Dma_Read))))
  (.seq (.ops [⟨some 4, none, .mov (.c (.int .u32 0))⟩,
  ⟨some 5, none, .mov (.c (.bool false))⟩])
  (.ret)))
def f_dma_Dma_Read : F := ⟨c_dma_Dma_Read, [.t 4, .t 5], some []⟩
theorem h_dma_Dma_Read : compF Tryz.prog (compAny Tryz.prog) n_dma_Dma_Read = some (f_dma_Dma_Read.body, f_dma_Dma_Read.res) := by kernel_rfl
def c0_disk_Disk_Read : C :=
 .seq (.ops [⟨some 26, none, .bin .eql (.t 6) (.c (.int .u32 12))⟩,
  ⟨some 25, none, .mov (.t 26)⟩])
  (.cond (.t 25)
  (.seq (.ops [⟨some 27, none, .mov (.t 0)⟩,
  ⟨some 28, none, .nilc (.t 27)⟩,
  ⟨some 29, none, .fa 7 (.t 28)⟩,
  ⟨some 30, none, .ld (.t 29)⟩,
  ⟨some 4, none, .mov (.t 30)⟩,
  ⟨some 5, none, .mov (.c (.bool true))⟩])
  (.ret))
  (.skip))
def c1_disk_Disk_Read : C :=
 .seq (.ops [⟨some 20, none, .bin .eql (.t 6) (.c (.int .u32 8))⟩,
  ⟨some 19, none, .mov (.t 20)⟩])
  (.cond (.t 19)
  (.seq (.ops [⟨some 21, none, .mov (.t 0)⟩,
  ⟨some 22, none, .nilc (.t 21)⟩,
  ⟨some 23, none, .fa 6 (.t 22)⟩,
  ⟨some 24, none, .ld (.t 23)⟩,
  ⟨some 4, none, .mov (.t 24)⟩,
  ⟨some 5, none, .mov (.c (.bool true))⟩])
  (.ret))
  (c0_disk_Disk_Read))
def c2_disk_Disk_Read : C :=
 .seq (.ops [⟨some 14, none, .bin .eql (.t 6) (.c (.int .u32 4))⟩,
  ⟨some 13, none, .mov (.t 14)⟩])
  (.cond (.t 13)
  (.seq (.ops [⟨some 15, none, .mov (.t 0)⟩,
  ⟨some 16, none, .nilc (.t 15)⟩,
  ⟨some 17, none, .fa 5 (.t 16)⟩,
  ⟨some 18, none, .ld (.t 17)⟩,
  ⟨some 4, none, .mov (.t 18)⟩,
  ⟨some 5, none, .mov (.c (.bool true))⟩])
  (.ret))
  (c1_disk_Disk_Read))
def c3_disk_Disk_Read : C :=
 .block 0
  (.seq (.ops [⟨some 8, none, .bin .eql (.t 6) (.c (.int .u32 0))⟩,
  ⟨some 7, none, .mov (.t 8)⟩])
  (.cond (.t 7)
  (.seq (.ops [⟨some 9, none, .mov (.t 0)⟩,
  ⟨some 10, none, .nilc (.t 9)⟩,
  ⟨some 11, none, .fa 4 (.t 10)⟩,
  ⟨some 12, none, .ld (.t 11)⟩,
  ⟨some 4, none, .mov (.t 12)⟩,
  ⟨some 5, none, .mov (.c (.bool true))⟩])
  (.ret))
  (c2_disk_Disk_Read)))
def c_disk_Disk_Read : C :=
 .seq (.ops [⟨some 4, none, .mov (.c (.int .u32 0))⟩,
  ⟨some 5, none, .mov (.c (.bool false))⟩])
  (.seq (.seq (.ops [⟨some 6, none, .mov (.t 1)⟩])
  (c3_disk_Disk_Read))
  (.seq (.ops [⟨some 4, none, .mov (.c (.int .u32 0))⟩,
  ⟨some 5, none, .mov (.c (.bool false))⟩])
  (.ret)))
def f_disk_Disk_Read : F := ⟨c_disk_Disk_Read, [.t 4, .t 5], some []⟩
theorem h_disk_Disk_Read : compF Tryz.prog (compAny Tryz.prog) n_disk_Disk_Read = some (f_disk_Disk_Read.body, f_disk_Disk_Read.res) := by kernel_rfl
def c0_lines_Lines_Set : C :=
 .any 0 [.op 0 ⟨some 22, none, .mov (.t 0)⟩,
  .op 1 ⟨some 23, none, .nilc (.t 22)⟩,
  .op 2 ⟨some 24, none, .fa 0 (.t 23)⟩,
  .op 3 ⟨some 25, none, .ld (.t 24)⟩,
  .op 4 ⟨some 26, none, .mov (.t 1)⟩,
  .op 5 ⟨some 27, none, .bin .shl (.c (.int .u32 1)) (.t 26)⟩,
  .op 6 ⟨some 28, none, .bin .or (.t 25) (.t 27)⟩,
  .op 7 ⟨some 29, none, .nilc (.t 22)⟩,
  .op 8 ⟨some 30, none, .fa 0 (.t 29)⟩,
  .op 9 ⟨none, none, .st (.t 30) (.t 28)⟩]
def c1_lines_Lines_Set : C :=
 .seq (.any 0 [.op 0 ⟨some 12, none, .mov (.t 0)⟩,
  .op 1 ⟨some 13, none, .nilc (.t 12)⟩,
  .op 2 ⟨some 14, none, .fa 0 (.t 13)⟩,
  .op 3 ⟨some 15, none, .ld (.t 14)⟩,
  .op 4 ⟨some 16, none, .mov (.t 1)⟩,
  .op 5 ⟨some 17, none, .bin .shl (.c (.int .u32 1)) (.t 16)⟩,
  .op 6 ⟨some 18, none, .bin .andNot (.t 15) (.t 17)⟩,
  .op 7 ⟨some 19, none, .nilc (.t 12)⟩,
  .op 8 ⟨some 20, none, .fa 0 (.t 19)⟩,
  .op 9 ⟨none, none, .st (.t 20) (.t 18)⟩])
  (.seq (.ops [⟨some 21, none, .mov (.t 2)⟩])
  (.cond (.t 21)
  (c0_lines_Lines_Set)
  (.skip)))
def c_lines_Lines_Set : C :=
 .seq (.seq (.ops [⟨some 6, none, .mov (.t 1)⟩,
  ⟨some 7, none, .bin .lss (.t 6) (.c (.int .i64 1))⟩,
  ⟨some 8, none, .mov (.t 7)⟩,
  ⟨some 9, some (8, false), .mov (.t 1)⟩,
  ⟨some 10, some (8, false), .bin .gtr (.t 9) (.c (.int .i64 5))⟩,
  ⟨some 11, none, .pick (.t 8) (.c (.bool true)) (.t 10)⟩])
  (.cond (.t 11)
  (.ret)
  (.skip)))
  (c1_lines_Lines_Set)
def f_lines_Lines_Set : F := ⟨c_lines_Lines_Set, [], some []⟩
theorem h_lines_Lines_Set : compF Tryz.prog (compAny Tryz.prog) n_lines_Lines_Set = some (f_lines_Lines_Set.body, f_lines_Lines_Set.res) := by kernel_rfl
def c0_bus_Bus_line : C :=
 .seq (.ops [⟨some 28, none, .bin .eql (.t 5) (.c (.int .i64 4))⟩,
  ⟨some 27, none, .mov (.t 28)⟩])
  (.cond (.t 27)
  (.seq (.ops [⟨some 29, none, .mov (.t 0)⟩,
  ⟨some 30, none, .nilc (.t 29)⟩,
  ⟨some 31, none, .fa 6 (.t 30)⟩,
  ⟨some 32, none, .ld (.t 31)⟩,
  ⟨some 33, none, .call n_dma_Dma_Line [(.t 32)]⟩,
  ⟨some 4, none, .mov (.t 33)⟩])
  (.ret))
  (.skip))
def c1_bus_Bus_line : C :=
 .seq (.ops [⟨some 21, none, .bin .eql (.t 5) (.c (.int .i64 3))⟩,
  ⟨some 20, none, .mov (.t 21)⟩])
  (.cond (.t 20)
  (.seq (.ops [⟨some 22, none, .mov (.t 0)⟩,
  ⟨some 23, none, .nilc (.t 22)⟩,
  ⟨some 24, none, .fa 5 (.t 23)⟩,
  ⟨some 25, none, .ld (.t 24)⟩,
  ⟨some 26, none, .call n_uart_Uart_Line [(.t 25)]⟩,
  ⟨some 4, none, .mov (.t 26)⟩])
  (.ret))
  (c0_bus_Bus_line))
def c2_bus_Bus_line : C :=
 .seq (.ops [⟨some 14, none, .bin .eql (.t 5) (.c (.int .i64 2))⟩,
  ⟨some 13, none, .mov (.t 14)⟩])
  (.cond (.t 13)
  (.seq (.ops [⟨some 15, none, .mov (.t 0)⟩,
  ⟨some 16, none, .nilc (.t 15)⟩,
  ⟨some 17, none, .fa 4 (.t 16)⟩,
  ⟨some 18, none, .ld (.t 17)⟩,
  ⟨some 19, none, .call n_timer_Timer_Line [(.t 18)]⟩,
  ⟨some 4, none, .mov (.t 19)⟩])
  (.ret))
  (c1_bus_Bus_line))
def c3_bus_Bus_line : C :=
 .block 0
  (.seq (.ops [⟨some 7, none, .bin .eql (.t 5) (.c (.int .i64 1))⟩,
  ⟨some 6, none, .mov (.t 7)⟩])
  (.cond (.t 6)
  (.seq (.ops [⟨some 8, none, .mov (.t 0)⟩,
  ⟨some 9, none, .nilc (.t 8)⟩,
  ⟨some 10, none, .fa 3 (.t 9)⟩,
  ⟨some 11, none, .ld (.t 10)⟩,
  ⟨some 12, none, .call n_timer_Timer_Line [(.t 11)]⟩,
  ⟨some 4, none, .mov (.t 12)⟩])
  (.ret))
  (c2_bus_Bus_line)))
def c_bus_Bus_line : C :=
 .seq (.ops [⟨some 4, none, .mov (.c (.bool false))⟩])
  (.seq (.seq (.ops [⟨some 5, none, .mov (.t 1)⟩])
  (c3_bus_Bus_line))
  (.seq (.ops [⟨some 34, none, .mov (.t 0)⟩,
  ⟨some 35, none, .nilc (.t 34)⟩,
  ⟨some 36, none, .fa 7 (.t 35)⟩,
  ⟨some 37, none, .ld (.t 36)⟩,
  ⟨some 38, none, .call n_disk_Disk_Line [(.t 37)]⟩,
  ⟨some 4, none, .mov (.t 38)⟩])
  (.ret)))
def f_bus_Bus_line : F := ⟨c_bus_Bus_line, [.t 4], some []⟩
theorem h_bus_Bus_line : compF Tryz.prog (compAny Tryz.prog) n_bus_Bus_line = some (f_bus_Bus_line.body, f_bus_Bus_line.res) := by kernel_rfl
def c0_pianolaref2_Ram_In : C :=
 .seq (.ops [⟨some 7, none, .mov (.t 2)⟩,
  ⟨some 8, none, .bin .geq (.t 7) (.c (.int .i64 0))⟩,
  ⟨some 9, none, .mov (.t 8)⟩,
  ⟨some 10, some (9, true), .mov (.t 1)⟩,
  ⟨some 11, some (9, true), .conv .u64 (.t 10)⟩,
  ⟨some 12, some (9, true), .mov (.t 2)⟩,
  ⟨some 13, some (9, true), .conv .u64 (.t 12)⟩,
  ⟨some 14, some (9, true), .bin .add (.t 11) (.t 13)⟩,
  ⟨some 15, some (9, true), .mov (.t 0)⟩,
  ⟨some 16, some (9, true), .nilc (.t 15)⟩,
  ⟨some 17, some (9, true), .fa 0 (.t 16)⟩,
  ⟨some 18, some (9, true), .ld (.t 17)⟩,
  ⟨some 19, some (9, true), .len 1 (.t 18)⟩,
  ⟨some 20, some (9, true), .conv .u64 (.t 19)⟩,
  ⟨some 21, some (9, true), .bin .leq (.t 14) (.t 20)⟩,
  ⟨some 22, none, .pick (.t 9) (.t 21) (.c (.bool false))⟩,
  ⟨some 6, none, .mov (.t 22)⟩])
  (.ret)
def c_pianolaref2_Ram_In : C :=
 .seq (.ops [⟨some 6, none, .mov (.c (.bool false))⟩])
  (c0_pianolaref2_Ram_In)
def f_pianolaref2_Ram_In : F := ⟨c_pianolaref2_Ram_In, [.t 6], some []⟩
theorem h_pianolaref2_Ram_In : compF Tryz.prog (compAny Tryz.prog) n_pianolaref2_Ram_In = some (f_pianolaref2_Ram_In.body, f_pianolaref2_Ram_In.res) := by kernel_rfl
def c_pianolaref15_bit : C :=
 .seq (.ops [⟨some 4, none, .mov (.c (.int .u32 0))⟩])
  (.seq (.seq (.ops [⟨some 5, none, .mov (.t 0)⟩])
  (.cond (.t 5)
  (.seq (.ops [⟨some 6, none, .mov (.t 1)⟩,
  ⟨some 7, none, .bin .shl (.c (.int .u32 1)) (.t 6)⟩,
  ⟨some 4, none, .mov (.t 7)⟩])
  (.ret))
  (.skip)))
  (.seq (.ops [⟨some 4, none, .mov (.c (.int .u32 0))⟩])
  (.ret)))
def f_pianolaref15_bit : F := ⟨c_pianolaref15_bit, [.t 4], some []⟩
theorem h_pianolaref15_bit : compF Tryz.prog (compAny Tryz.prog) n_pianolaref15_bit = some (f_pianolaref15_bit.body, f_pianolaref15_bit.res) := by kernel_rfl
def c0_pianolaref15_Bus_Line : C :=
 .seq (.ops [⟨some 9, none, .mov (.t 0)⟩,
  ⟨some 10, none, .mov (.t 1)⟩,
  ⟨some 11, none, .bin .sub (.t 10) (.c (.int .i64 1))⟩,
  ⟨some 12, none, .nilc (.t 9)⟩,
  ⟨some 13, none, .fa 3 (.t 12)⟩,
  ⟨some 14, none, .iaa 2 3 (.t 13) (.t 11)⟩,
  ⟨some 15, none, .fa 2 (.t 14)⟩,
  ⟨some 16, none, .ld (.t 15)⟩,
  ⟨some 17, none, .bin .neq (.t 16) (.c (.int .u32 0))⟩,
  ⟨some 4, none, .mov (.t 17)⟩])
  (.ret)
def c1_pianolaref15_Bus_Line : C :=
 .seq (.ops [⟨some 20, none, .mov (.t 0)⟩,
  ⟨some 21, none, .nilc (.t 20)⟩,
  ⟨some 22, none, .fa 9 (.t 21)⟩,
  ⟨some 23, none, .fa 3 (.t 22)⟩,
  ⟨some 24, none, .ld (.t 23)⟩,
  ⟨some 25, none, .bin .and (.t 24) (.c (.int .u32 1))⟩,
  ⟨some 26, none, .bin .neq (.t 25) (.c (.int .u32 0))⟩,
  ⟨some 27, none, .mov (.t 26)⟩,
  ⟨some 28, some (27, true), .mov (.t 0)⟩,
  ⟨some 29, some (27, true), .nilc (.t 28)⟩,
  ⟨some 30, some (27, true), .fa 9 (.t 29)⟩,
  ⟨some 31, some (27, true), .fa 0 (.t 30)⟩,
  ⟨some 32, some (27, true), .ld (.t 31)⟩,
  ⟨some 33, some (27, true), .len 1 (.t 32)⟩,
  ⟨some 34, some (27, true), .bin .gtr (.t 33) (.c (.int .i64 0))⟩,
  ⟨some 35, none, .pick (.t 27) (.t 34) (.c (.bool false))⟩,
  ⟨some 36, none, .mov (.t 35)⟩,
  ⟨some 37, some (36, false), .mov (.t 0)⟩,
  ⟨some 38, some (36, false), .nilc (.t 37)⟩,
  ⟨some 39, some (36, false), .fa 9 (.t 38)⟩,
  ⟨some 40, some (36, false), .fa 3 (.t 39)⟩,
  ⟨some 41, some (36, false), .ld (.t 40)⟩,
  ⟨some 42, some (36, false), .bin .and (.t 41) (.c (.int .u32 2))⟩,
  ⟨some 43, some (36, false), .bin .neq (.t 42) (.c (.int .u32 0))⟩,
  ⟨some 44, some (36, false), .mov (.t 43)⟩,
  ⟨some 45, some (44, true), .mov (.t 0)⟩,
  ⟨some 46, some (44, true), .nilc (.t 45)⟩,
  ⟨some 47, some (44, true), .fa 9 (.t 46)⟩,
  ⟨some 48, some (44, true), .fa 1 (.t 47)⟩,
  ⟨some 49, some (44, true), .ld (.t 48)⟩,
  ⟨some 50, some (44, true), .len 1 (.t 49)⟩,
  ⟨some 51, some (44, true), .bin .eql (.t 50) (.c (.int .i64 0))⟩,
  ⟨some 52, some (36, false), .pick (.t 44) (.t 51) (.c (.bool false))⟩,
  ⟨some 53, none, .pick (.t 36) (.c (.bool true)) (.t 52)⟩,
  ⟨some 4, none, .mov (.t 53)⟩])
  (.ret)
def c2_pianolaref15_Bus_Line : C :=
 .seq (.ops [⟨some 56, none, .mov (.t 0)⟩,
  ⟨some 57, none, .nilc (.t 56)⟩,
  ⟨some 58, none, .fa 14 (.t 57)⟩,
  ⟨some 59, none, .fa 3 (.t 58)⟩,
  ⟨some 60, none, .ld (.t 59)⟩,
  ⟨some 61, none, .bin .and (.t 60) (.c (.int .u32 6))⟩,
  ⟨some 62, none, .bin .neq (.t 61) (.c (.int .u32 0))⟩,
  ⟨some 4, none, .mov (.t 62)⟩])
  (.ret)
def c3_pianolaref15_Bus_Line : C :=
 .seq (.ops [⟨some 65, none, .mov (.t 0)⟩,
  ⟨some 66, none, .nilc (.t 65)⟩,
  ⟨some 67, none, .fa 18 (.t 66)⟩,
  ⟨some 68, none, .fa 3 (.t 67)⟩,
  ⟨some 69, none, .ld (.t 68)⟩,
  ⟨some 70, none, .bin .and (.t 69) (.c (.int .u32 6))⟩,
  ⟨some 71, none, .bin .neq (.t 70) (.c (.int .u32 0))⟩,
  ⟨some 4, none, .mov (.t 71)⟩])
  (.ret)
def c4_pianolaref15_Bus_Line : C :=
 .seq (.ops [⟨some 19, none, .bin .eql (.t 5) (.c (.int .i64 3))⟩,
  ⟨some 18, none, .mov (.t 19)⟩])
  (.cond (.t 18)
  (c1_pianolaref15_Bus_Line)
  (.seq (.ops [⟨some 55, none, .bin .eql (.t 5) (.c (.int .i64 4))⟩,
  ⟨some 54, none, .mov (.t 55)⟩])
  (.cond (.t 54)
  (c2_pianolaref15_Bus_Line)
  (.seq (.ops [⟨some 64, none, .bin .eql (.t 5) (.c (.int .i64 5))⟩,
  ⟨some 63, none, .mov (.t 64)⟩])
  (.cond (.t 63)
  (c3_pianolaref15_Bus_Line)
  (.skip))))))
def c5_pianolaref15_Bus_Line : C :=
 .seq (.seq (.ops [⟨some 5, none, .mov (.t 1)⟩])
  (.block 0
  (.seq (.seq (.ops [⟨some 7, none, .bin .eql (.t 5) (.c (.int .i64 1))⟩,
  ⟨some 6, none, .mov (.t 7)⟩])
  (.cond (.t 6)
  (.skip)
  (.ops [⟨some 8, none, .bin .eql (.t 5) (.c (.int .i64 2))⟩,
  ⟨some 6, none, .mov (.t 8)⟩])))
  (.cond (.t 6)
  (c0_pianolaref15_Bus_Line)
  (c4_pianolaref15_Bus_Line)))))
  (.seq (.ops [⟨some 4, none, .mov (.c (.bool false))⟩])
  (.ret))
def c_pianolaref15_Bus_Line : C :=
 .seq (.ops [⟨some 4, none, .mov (.c (.bool false))⟩])
  (c5_pianolaref15_Bus_Line)
def f_pianolaref15_Bus_Line : F := ⟨c_pianolaref15_Bus_Line, [.t 4], some []⟩
theorem h_pianolaref15_Bus_Line : compF Tryz.prog (compAny Tryz.prog) n_pianolaref15_Bus_Line = some (f_pianolaref15_Bus_Line.body, f_pianolaref15_Bus_Line.res) := by kernel_rfl
def c0_lines_Lines_Write : C :=
 .seq (.seq (.ops [⟨some 16, none, .bin .eql (.t 7) (.c (.int .u32 0))⟩,
  ⟨some 15, none, .mov (.t 16)⟩])
  (.cond (.t 15)
  (.skip)
  (.seq (.ops [⟨some 17, none, .bin .eql (.t 7) (.c (.int .u32 8))⟩,
  ⟨some 15, none, .mov (.t 17)⟩])
  (.cond (.t 15)
  (.skip)
  (.ops [⟨some 18, none, .bin .eql (.t 7) (.c (.int .u32 12))⟩,
  ⟨some 15, none, .mov (.t 18)⟩])))))
  (.cond (.t 15)
  (.skip)
  (.seq (.ops [⟨some 6, none, .mov (.c (.bool false))⟩])
  (.ret)))
def c1_lines_Lines_Write : C :=
 .block 0
  (.seq (.ops [⟨some 9, none, .bin .eql (.t 7) (.c (.int .u32 4))⟩,
  ⟨some 8, none, .mov (.t 9)⟩])
  (.cond (.t 8)
  (.ops [⟨some 10, none, .mov (.t 0)⟩,
  ⟨some 11, none, .mov (.t 2)⟩,
  ⟨some 12, none, .bin .and (.t 11) (.c (.int .u32 62))⟩,
  ⟨some 13, none, .nilc (.t 10)⟩,
  ⟨some 14, none, .fa 1 (.t 13)⟩,
  ⟨none, none, .st (.t 14) (.t 12)⟩])
  (c0_lines_Lines_Write)))
def c_lines_Lines_Write : C :=
 .seq (.ops [⟨some 6, none, .mov (.c (.bool false))⟩])
  (.seq (.seq (.ops [⟨some 7, none, .mov (.t 1)⟩])
  (c1_lines_Lines_Write))
  (.seq (.ops [⟨some 6, none, .mov (.c (.bool true))⟩])
  (.ret)))
def f_lines_Lines_Write : F := ⟨c_lines_Lines_Write, [.t 6], some []⟩
theorem h_lines_Lines_Write : compF Tryz.prog (compAny Tryz.prog) n_lines_Lines_Write = some (f_lines_Lines_Write.body, f_lines_Lines_Write.res) := by kernel_rfl
def c0_timer_Timer_Write : C :=
 .any 0 [.op 0 ⟨some 23, none, .mov (.t 0)⟩,
  .op 1 ⟨some 24, none, .nilc (.t 23)⟩,
  .op 2 ⟨some 25, none, .fa 1 (.t 24)⟩,
  .op 3 ⟨some 26, none, .ld (.t 25)⟩,
  .op 4 ⟨some 27, none, .mov (.t 0)⟩,
  .op 5 ⟨some 28, none, .nilc (.t 27)⟩,
  .op 6 ⟨some 29, none, .fa 0 (.t 28)⟩,
  .op 7 ⟨some 30, none, .ld (.t 29)⟩,
  .op 8 ⟨some 31, none, .call n_wheel_Wheel_Cancel [(.t 26), (.t 30)]⟩]
def c1_timer_Timer_Write : C :=
 .seq (.ops [⟨some 17, none, .mov (.t 2)⟩,
  ⟨some 18, none, .bin .and (.t 17) (.c (.int .u32 1))⟩,
  ⟨some 19, none, .bin .neq (.t 18) (.c (.int .u32 0))⟩])
  (.cond (.t 19)
  (.ops [⟨some 20, none, .mov (.t 0)⟩,
  ⟨some 21, none, .mov (.t 3)⟩,
  ⟨some 22, none, .call n_timer_Timer_arm [(.t 20), (.t 21)]⟩])
  (c0_timer_Timer_Write))
def c2_timer_Timer_Write : C :=
 .seq (.ops [⟨some 40, none, .mov (.t 2)⟩,
  ⟨some 41, none, .bin .and (.t 40) (.c (.int .u32 1))⟩,
  ⟨some 42, none, .bin .neq (.t 41) (.c (.int .u32 0))⟩])
  (.cond (.t 42)
  (.ops [⟨some 43, none, .mov (.t 0)⟩,
  ⟨some 44, none, .nilc (.t 43)⟩,
  ⟨some 45, none, .fa 4 (.t 44)⟩,
  ⟨none, none, .st (.t 45) (.c (.int .u32 0))⟩])
  (.skip))
def c3_timer_Timer_Write : C :=
 .cond (.t 32)
  (.ops [⟨some 34, none, .mov (.t 0)⟩,
  ⟨some 35, none, .mov (.t 2)⟩,
  ⟨some 36, none, .nilc (.t 34)⟩,
  ⟨some 37, none, .fa 3 (.t 36)⟩,
  ⟨none, none, .st (.t 37) (.t 35)⟩])
  (.seq (.ops [⟨some 39, none, .bin .eql (.t 9) (.c (.int .u32 8))⟩,
  ⟨some 38, none, .mov (.t 39)⟩])
  (.cond (.t 38)
  (c2_timer_Timer_Write)
  (.seq (.ops [⟨some 8, none, .mov (.c (.bool false))⟩])
  (.ret))))
def c4_timer_Timer_Write : C :=
 .cond (.t 10)
  (.seq (.ops [⟨some 12, none, .mov (.t 0)⟩,
  ⟨some 13, none, .mov (.t 2)⟩,
  ⟨some 14, none, .bin .and (.t 13) (.c (.int .u32 3))⟩,
  ⟨some 15, none, .nilc (.t 12)⟩,
  ⟨some 16, none, .fa 2 (.t 15)⟩,
  ⟨none, none, .st (.t 16) (.t 14)⟩])
  (c1_timer_Timer_Write))
  (.seq (.ops [⟨some 33, none, .bin .eql (.t 9) (.c (.int .u32 4))⟩,
  ⟨some 32, none, .mov (.t 33)⟩])
  (c3_timer_Timer_Write))
def c_timer_Timer_Write : C :=
 .seq (.ops [⟨some 8, none, .mov (.c (.bool false))⟩])
  (.seq (.seq (.ops [⟨some 9, none, .mov (.t 1)⟩])
  (.block 0
  (.seq (.ops [⟨some 11, none, .bin .eql (.t 9) (.c (.int .u32 0))⟩,
  ⟨some 10, none, .mov (.t 11)⟩])
  (c4_timer_Timer_Write))))
  (.seq (.ops [⟨some 8, none, .mov (.c (.bool true))⟩])
  (.ret)))
def f_timer_Timer_Write : F := ⟨c_timer_Timer_Write, [.t 8], some []⟩
theorem h_timer_Timer_Write : compF Tryz.prog (compAny Tryz.prog) n_timer_Timer_Write = some (f_timer_Timer_Write.body, f_timer_Timer_Write.res) := by kernel_rfl
def c0_uart_Uart_Write : C :=
 .seq (.ops [⟨some 19, none, .mov (.t 0)⟩,
  ⟨some 20, none, .nilc (.t 19)⟩,
  ⟨some 21, none, .fa 3 (.t 20)⟩,
  ⟨some 22, none, .ld (.t 21)⟩,
  ⟨some 23, none, .mov (.t 2)⟩,
  ⟨some 24, none, .conv .u8 (.t 23)⟩,
  ⟨some 25, none, .call n_uart_put [(.t 22), (.t 24)]⟩,
  ⟨some 26, none, .mov (.t 25)⟩,
  ⟨some 27, some (26, true), .mov (.t 9)⟩,
  ⟨some 28, none, .pick (.t 26) (.t 27) (.c (.bool false))⟩])
  (.cond (.t 28)
  (.ops [⟨some 29, none, .mov (.t 0)⟩,
  ⟨some 30, none, .mov (.t 3)⟩,
  ⟨some 31, none, .call n_uart_Uart_arm [(.t 29), (.t 30)]⟩])
  (.skip))
def c1_uart_Uart_Write : C :=
 .ops [⟨some 34, none, .mov (.t 0)⟩,
  ⟨some 35, none, .mov (.t 0)⟩,
  ⟨some 36, none, .nilc (.t 35)⟩,
  ⟨some 37, none, .fa 4 (.t 36)⟩,
  ⟨some 38, none, .ld (.t 37)⟩,
  ⟨some 39, none, .mov (.t 38)⟩,
  ⟨some 40, some (39, true), .mov (.t 2)⟩,
  ⟨some 41, some (39, true), .bin .and (.t 40) (.c (.int .u32 4))⟩,
  ⟨some 42, some (39, true), .bin .eql (.t 41) (.c (.int .u32 0))⟩,
  ⟨some 43, none, .pick (.t 39) (.t 42) (.c (.bool false))⟩,
  ⟨some 44, none, .nilc (.t 34)⟩,
  ⟨some 45, none, .fa 4 (.t 44)⟩,
  ⟨none, none, .st (.t 45) (.t 43)⟩]
def c2_uart_Uart_Write : C :=
 .cond (.t 46)
  (.ops [⟨some 48, none, .mov (.t 0)⟩,
  ⟨some 49, none, .mov (.t 2)⟩,
  ⟨some 50, none, .bin .and (.t 49) (.c (.int .u32 3))⟩,
  ⟨some 51, none, .nilc (.t 48)⟩,
  ⟨some 52, none, .fa 5 (.t 51)⟩,
  ⟨none, none, .st (.t 52) (.t 50)⟩])
  (.seq (.ops [⟨some 8, none, .mov (.c (.bool false))⟩])
  (.ret))
def c3_uart_Uart_Write : C :=
 .cond (.t 11)
  (.seq (.ops [⟨some 13, none, .mov (.t 0)⟩,
  ⟨some 14, none, .nilc (.t 13)⟩,
  ⟨some 15, none, .fa 3 (.t 14)⟩,
  ⟨some 16, none, .ld (.t 15)⟩,
  ⟨some 17, none, .len 3 (.t 16)⟩,
  ⟨some 18, none, .bin .eql (.t 17) (.c (.int .i64 0))⟩,
  ⟨some 9, none, .mov (.t 18)⟩])
  (c0_uart_Uart_Write))
  (.seq (.ops [⟨some 33, none, .bin .eql (.t 10) (.c (.int .u32 4))⟩,
  ⟨some 32, none, .mov (.t 33)⟩])
  (.cond (.t 32)
  (c1_uart_Uart_Write)
  (.seq (.ops [⟨some 47, none, .bin .eql (.t 10) (.c (.int .u32 8))⟩,
  ⟨some 46, none, .mov (.t 47)⟩])
  (c2_uart_Uart_Write))))
def c_uart_Uart_Write : C :=
 .seq (.ops [⟨some 8, none, .mov (.c (.bool false))⟩])
  (.seq (.seq (.ops [⟨some 10, none, .mov (.t 1)⟩])
  (.block 0
  (.seq (.ops [⟨some 12, none, .bin .eql (.t 10) (.c (.int .u32 0))⟩,
  ⟨some 11, none, .mov (.t 12)⟩])
  (c3_uart_Uart_Write))))
  (.seq (.ops [⟨some 8, none, .mov (.c (.bool true))⟩])
  (.ret)))
def f_uart_Uart_Write : F := ⟨c_uart_Uart_Write, [.t 8], some []⟩
theorem h_uart_Uart_Write : compF Tryz.prog (compAny Tryz.prog) n_uart_Uart_Write = some (f_uart_Uart_Write.body, f_uart_Uart_Write.res) := by kernel_rfl
def c0_dma_Dma_Write : C :=
 .ops [⟨some 38, none, .mov (.t 0)⟩,
  ⟨some 39, none, .nilc (.t 38)⟩,
  ⟨some 40, none, .fa 6 (.t 39)⟩,
  ⟨some 41, none, .ld (.t 40)⟩,
  ⟨some 42, none, .mov (.t 2)⟩,
  ⟨some 43, none, .bin .and (.t 42) (.c (.int .u32 6))⟩,
  ⟨some 44, none, .bin .andNot (.t 41) (.t 43)⟩,
  ⟨some 45, none, .nilc (.t 38)⟩,
  ⟨some 46, none, .fa 6 (.t 45)⟩,
  ⟨none, none, .st (.t 46) (.t 44)⟩]
def c1_dma_Dma_Write : C :=
 .cond (.t 28)
  (.seq (.ops [⟨some 30, none, .mov (.t 2)⟩,
  ⟨some 31, none, .bin .and (.t 30) (.c (.int .u32 1))⟩,
  ⟨some 32, none, .bin .neq (.t 31) (.c (.int .u32 0))⟩])
  (.cond (.t 32)
  (.ops [⟨some 33, none, .mov (.t 0)⟩,
  ⟨some 34, none, .mov (.t 3)⟩,
  ⟨some 35, none, .call n_dma_Dma_begin [(.t 33), (.t 34)]⟩])
  (.skip)))
  (.seq (.ops [⟨some 37, none, .bin .eql (.t 9) (.c (.int .u32 16))⟩,
  ⟨some 36, none, .mov (.t 37)⟩])
  (.cond (.t 36)
  (c0_dma_Dma_Write)
  (.seq (.ops [⟨some 8, none, .mov (.c (.bool false))⟩])
  (.ret))))
def c2_dma_Dma_Write : C :=
 .seq (.ops [⟨some 23, none, .bin .eql (.t 9) (.c (.int .u32 8))⟩,
  ⟨some 22, none, .mov (.t 23)⟩])
  (.cond (.t 22)
  (.ops [⟨some 24, none, .mov (.t 0)⟩,
  ⟨some 25, none, .mov (.t 2)⟩,
  ⟨some 26, none, .nilc (.t 24)⟩,
  ⟨some 27, none, .fa 5 (.t 26)⟩,
  ⟨none, none, .st (.t 27) (.t 25)⟩])
  (.seq (.ops [⟨some 29, none, .bin .eql (.t 9) (.c (.int .u32 12))⟩,
  ⟨some 28, none, .mov (.t 29)⟩])
  (c1_dma_Dma_Write)))
def c3_dma_Dma_Write : C :=
 .cond (.t 10)
  (.ops [⟨some 12, none, .mov (.t 0)⟩,
  ⟨some 13, none, .mov (.t 2)⟩,
  ⟨some 14, none, .nilc (.t 12)⟩,
  ⟨some 15, none, .fa 3 (.t 14)⟩,
  ⟨none, none, .st (.t 15) (.t 13)⟩])
  (.seq (.ops [⟨some 17, none, .bin .eql (.t 9) (.c (.int .u32 4))⟩,
  ⟨some 16, none, .mov (.t 17)⟩])
  (.cond (.t 16)
  (.ops [⟨some 18, none, .mov (.t 0)⟩,
  ⟨some 19, none, .mov (.t 2)⟩,
  ⟨some 20, none, .nilc (.t 18)⟩,
  ⟨some 21, none, .fa 4 (.t 20)⟩,
  ⟨none, none, .st (.t 21) (.t 19)⟩])
  (c2_dma_Dma_Write)))
def c_dma_Dma_Write : C :=
 .seq (.ops [⟨some 8, none, .mov (.c (.bool false))⟩])
  (.seq (.seq (.ops [⟨some 9, none, .mov (.t 1)⟩])
  (.block 0
  (.seq (.ops [⟨some 11, none, .bin .eql (.t 9) (.c (.int .u32 0))⟩,
  ⟨some 10, none, .mov (.t 11)⟩])
  (c3_dma_Dma_Write))))
  (.seq (.ops [⟨some 8, none, .mov (.c (.bool true))⟩])
  (.ret)))
def f_dma_Dma_Write : F := ⟨c_dma_Dma_Write, [.t 8], some []⟩
theorem h_dma_Dma_Write : compF Tryz.prog (compAny Tryz.prog) n_dma_Dma_Write = some (f_dma_Dma_Write.body, f_dma_Dma_Write.res) := by kernel_rfl
def c0_disk_Disk_Write : C :=
 .ops [⟨some 30, none, .mov (.t 0)⟩,
  ⟨some 31, none, .nilc (.t 30)⟩,
  ⟨some 32, none, .fa 7 (.t 31)⟩,
  ⟨some 33, none, .ld (.t 32)⟩,
  ⟨some 34, none, .mov (.t 2)⟩,
  ⟨some 35, none, .bin .and (.t 34) (.c (.int .u32 6))⟩,
  ⟨some 36, none, .bin .andNot (.t 33) (.t 35)⟩,
  ⟨some 37, none, .nilc (.t 30)⟩,
  ⟨some 38, none, .fa 7 (.t 37)⟩,
  ⟨none, none, .st (.t 38) (.t 36)⟩]
def c1_disk_Disk_Write : C :=
 .cond (.t 22)
  (.ops [⟨some 24, none, .mov (.t 0)⟩,
  ⟨some 25, none, .mov (.t 2)⟩,
  ⟨some 26, none, .mov (.t 3)⟩,
  ⟨some 27, none, .call n_disk_Disk_begin [(.t 24), (.t 25), (.t 26)]⟩])
  (.seq (.ops [⟨some 29, none, .bin .eql (.t 9) (.c (.int .u32 12))⟩,
  ⟨some 28, none, .mov (.t 29)⟩])
  (.cond (.t 28)
  (c0_disk_Disk_Write)
  (.seq (.ops [⟨some 8, none, .mov (.c (.bool false))⟩])
  (.ret))))
def c2_disk_Disk_Write : C :=
 .seq (.ops [⟨some 17, none, .bin .eql (.t 9) (.c (.int .u32 4))⟩,
  ⟨some 16, none, .mov (.t 17)⟩])
  (.cond (.t 16)
  (.ops [⟨some 18, none, .mov (.t 0)⟩,
  ⟨some 19, none, .mov (.t 2)⟩,
  ⟨some 20, none, .nilc (.t 18)⟩,
  ⟨some 21, none, .fa 5 (.t 20)⟩,
  ⟨none, none, .st (.t 21) (.t 19)⟩])
  (.seq (.ops [⟨some 23, none, .bin .eql (.t 9) (.c (.int .u32 8))⟩,
  ⟨some 22, none, .mov (.t 23)⟩])
  (c1_disk_Disk_Write)))
def c3_disk_Disk_Write : C :=
 .block 0
  (.seq (.ops [⟨some 11, none, .bin .eql (.t 9) (.c (.int .u32 0))⟩,
  ⟨some 10, none, .mov (.t 11)⟩])
  (.cond (.t 10)
  (.ops [⟨some 12, none, .mov (.t 0)⟩,
  ⟨some 13, none, .mov (.t 2)⟩,
  ⟨some 14, none, .nilc (.t 12)⟩,
  ⟨some 15, none, .fa 4 (.t 14)⟩,
  ⟨none, none, .st (.t 15) (.t 13)⟩])
  (c2_disk_Disk_Write)))
def c_disk_Disk_Write : C :=
 .seq (.ops [⟨some 8, none, .mov (.c (.bool false))⟩])
  (.seq (.seq (.ops [⟨some 9, none, .mov (.t 1)⟩])
  (c3_disk_Disk_Write))
  (.seq (.ops [⟨some 8, none, .mov (.c (.bool true))⟩])
  (.ret)))
def f_disk_Disk_Write : F := ⟨c_disk_Disk_Write, [.t 8], some []⟩
theorem h_disk_Disk_Write : compF Tryz.prog (compAny Tryz.prog) n_disk_Disk_Write = some (f_disk_Disk_Write.body, f_disk_Disk_Write.res) := by kernel_rfl
def c0_pianolaref2_Ram_touch : C :=
 .seq (.ops [⟨some 18, none, .mov (.t 0)⟩,
  ⟨some 19, none, .nilc (.t 18)⟩,
  ⟨some 20, none, .fa 1 (.t 19)⟩,
  ⟨some 21, none, .ld (.t 20)⟩,
  ⟨some 22, none, .mov (.t 7)⟩,
  ⟨some 23, none, .ia 1 (.t 21) (.t 22)⟩,
  ⟨some 24, none, .ld (.t 23)⟩])
  (.cond (.t 24)
  (.ops [⟨some 25, none, .mov (.t 0)⟩,
  ⟨some 26, none, .nilc (.t 25)⟩,
  ⟨some 27, none, .fa 2 (.t 26)⟩,
  ⟨some 28, none, .ld (.t 27)⟩,
  ⟨some 29, none, .mov (.t 7)⟩,
  ⟨some 30, none, .ia 1 (.t 28) (.t 29)⟩,
  ⟨none, none, .st (.t 30) (.c (.bool true))⟩])
  (.skip))
def c1_pianolaref2_Ram_touch : C :=
 .seq (.block 1
  (.seq (.ops [⟨some 13, none, .mov (.t 1)⟩,
  ⟨some 14, none, .conv .i64 (.t 13)⟩,
  ⟨some 15, none, .mov (.t 6)⟩,
  ⟨some 16, none, .bin .add (.t 14) (.t 15)⟩,
  ⟨some 17, none, .bin .quo (.t 16) (.c (.int .i64 1024))⟩,
  ⟨some 7, none, .mov (.t 17)⟩])
  (c0_pianolaref2_Ram_touch)))
  (.ops [⟨some 11, none, .mov (.t 6)⟩,
  ⟨some 12, none, .bin .add (.t 11) (.c (.int .i64 1))⟩,
  ⟨some 6, none, .mov (.t 12)⟩])
def c2_pianolaref2_Ram_touch : C :=
 .seq (.seq (.ops [⟨some 8, none, .mov (.t 6)⟩,
  ⟨some 9, none, .mov (.t 2)⟩,
  ⟨some 10, none, .bin .lss (.t 8) (.t 9)⟩])
  (.cond (.t 10)
  (.skip)
  (.exit 0)))
  (c1_pianolaref2_Ram_touch)
def c_pianolaref2_Ram_touch : C :=
 .seq (.ops [⟨some 6, none, .mov (.c (.int .i64 0))⟩])
  (.block 0
  (.loop c2_pianolaref2_Ram_touch))
def f_pianolaref2_Ram_touch : F := ⟨c_pianolaref2_Ram_touch, [], some []⟩
theorem h_pianolaref2_Ram_touch : compF Tryz.prog (compAny Tryz.prog) n_pianolaref2_Ram_touch = some (f_pianolaref2_Ram_touch.body, f_pianolaref2_Ram_touch.res) := by kernel_rfl
def c0_pianolaref15_Bus_timer : C :=
 .any 0 [.op 5 ⟨some 34, none, .mov (.t 11)⟩,
  .op 6 ⟨some 35, none, .nilc (.t 34)⟩,
  .op 7 ⟨some 36, none, .fa 1 (.t 35)⟩,
  .op 8 ⟨some 37, none, .ld (.t 36)⟩,
  .op 0 ⟨some 29, none, .mov (.t 0)⟩,
  .op 1 ⟨some 30, none, .nilc (.t 29)⟩,
  .op 2 ⟨some 31, none, .fa 1 (.t 30)⟩,
  .op 3 ⟨some 32, none, .mov (.t 1)⟩,
  .op 4 ⟨some 33, none, .mov (.t 4)⟩,
  .op 9 ⟨some 38, none, .conv .i64 (.t 37)⟩,
  .op 10 ⟨some 39, none, .mx (.t 38) (.c (.int .i64 1))⟩,
  .op 11 ⟨some 40, none, .bin .add (.t 33) (.t 39)⟩,
  .op 12 ⟨some 41, none, .call n_pianolaref9_Wheel_Arm [(.t 31), (.t 32), (.t 40)]⟩]
def c1_pianolaref15_Bus_timer : C :=
 .seq (.ops [⟨some 26, none, .mov (.t 3)⟩,
  ⟨some 27, none, .bin .and (.t 26) (.c (.int .u32 1))⟩,
  ⟨some 28, none, .bin .neq (.t 27) (.c (.int .u32 0))⟩])
  (.cond (.t 28)
  (c0_pianolaref15_Bus_timer)
  (.ops [⟨some 42, none, .mov (.t 0)⟩,
  ⟨some 43, none, .nilc (.t 42)⟩,
  ⟨some 44, none, .fa 1 (.t 43)⟩,
  ⟨some 45, none, .mov (.t 1)⟩,
  ⟨some 46, none, .call n_pianolaref9_Wheel_Cancel [(.t 44), (.t 45)]⟩]))
def c2_pianolaref15_Bus_timer : C :=
 .seq (.ops [⟨some 55, none, .mov (.t 3)⟩,
  ⟨some 56, none, .bin .and (.t 55) (.c (.int .u32 1))⟩,
  ⟨some 57, none, .bin .neq (.t 56) (.c (.int .u32 0))⟩])
  (.cond (.t 57)
  (.ops [⟨some 58, none, .mov (.t 11)⟩,
  ⟨some 59, none, .nilc (.t 58)⟩,
  ⟨some 60, none, .fa 2 (.t 59)⟩,
  ⟨none, none, .st (.t 60) (.c (.int .u32 0))⟩])
  (.skip))
def c3_pianolaref15_Bus_timer : C :=
 .cond (.t 47)
  (.ops [⟨some 49, none, .mov (.t 11)⟩,
  ⟨some 50, none, .mov (.t 3)⟩,
  ⟨some 51, none, .nilc (.t 49)⟩,
  ⟨some 52, none, .fa 1 (.t 51)⟩,
  ⟨none, none, .st (.t 52) (.t 50)⟩])
  (.seq (.ops [⟨some 54, none, .bin .eql (.t 18) (.c (.int .u32 2))⟩,
  ⟨some 53, none, .mov (.t 54)⟩])
  (.cond (.t 53)
  (c2_pianolaref15_Bus_timer)
  (.skip)))
def c4_pianolaref15_Bus_timer : C :=
 .cond (.t 19)
  (.seq (.ops [⟨some 21, none, .mov (.t 11)⟩,
  ⟨some 22, none, .mov (.t 3)⟩,
  ⟨some 23, none, .bin .and (.t 22) (.c (.int .u32 3))⟩,
  ⟨some 24, none, .nilc (.t 21)⟩,
  ⟨some 25, none, .fa 0 (.t 24)⟩,
  ⟨none, none, .st (.t 25) (.t 23)⟩])
  (c1_pianolaref15_Bus_timer))
  (.seq (.ops [⟨some 48, none, .bin .eql (.t 18) (.c (.int .u32 1))⟩,
  ⟨some 47, none, .mov (.t 48)⟩])
  (c3_pianolaref15_Bus_timer))
def c5_pianolaref15_Bus_timer : C :=
 .seq (.seq (.ops [⟨some 18, none, .mov (.t 2)⟩])
  (.block 0
  (.seq (.ops [⟨some 20, none, .bin .eql (.t 18) (.c (.int .u32 0))⟩,
  ⟨some 19, none, .mov (.t 20)⟩])
  (c4_pianolaref15_Bus_timer))))
  (.seq (.ops [⟨some 61, none, .mov (.t 2)⟩,
  ⟨some 62, none, .bin .lss (.t 61) (.c (.int .u32 3))⟩,
  ⟨some 10, none, .mov (.t 62)⟩])
  (.ret))
def c_pianolaref15_Bus_timer : C :=
 .seq (.ops [⟨some 10, none, .mov (.c (.bool false))⟩])
  (.seq (.ops [⟨some 12, none, .mov (.t 0)⟩,
  ⟨some 13, none, .mov (.t 1)⟩,
  ⟨some 14, none, .bin .sub (.t 13) (.c (.int .i64 1))⟩,
  ⟨some 15, none, .nilc (.t 12)⟩,
  ⟨some 16, none, .fa 3 (.t 15)⟩,
  ⟨some 17, none, .iaa 2 3 (.t 16) (.t 14)⟩,
  ⟨some 11, none, .mov (.t 17)⟩])
  (c5_pianolaref15_Bus_timer))
def f_pianolaref15_Bus_timer : F := ⟨c_pianolaref15_Bus_timer, [.t 10], some []⟩
theorem h_pianolaref15_Bus_timer : compF Tryz.prog (compAny Tryz.prog) n_pianolaref15_Bus_timer = some (f_pianolaref15_Bus_timer.body, f_pianolaref15_Bus_timer.res) := by kernel_rfl
def c0_pianolaref15_Bus_uart : C :=
 .ops [⟨some 34, none, .mov (.t 9)⟩,
  ⟨some 35, none, .bsl 0 [] []⟩,
  ⟨some 36, none, .mov (.t 9)⟩,
  ⟨some 37, none, .nilc (.t 36)⟩,
  ⟨some 38, none, .fa 1 (.t 37)⟩,
  ⟨some 39, none, .ld (.t 38)⟩,
  ⟨some 40, none, .app 1 1 (.t 35) (.t 39)⟩,
  ⟨some 41, none, .mov (.t 2)⟩,
  ⟨some 42, none, .conv .u8 (.t 41)⟩,
  ⟨some 43, none, .bsl 1 [(.int .u8 0)] [(0, 1, (.t 42))]⟩,
  ⟨some 44, none, .app 1 1 (.t 40) (.t 43)⟩,
  ⟨some 45, none, .nilc (.t 34)⟩,
  ⟨some 46, none, .fa 1 (.t 45)⟩,
  ⟨none, none, .st (.t 46) (.t 44)⟩]
def c1_pianolaref15_Bus_uart : C :=
 .seq (.seq (.ops [⟨some 22, none, .mov (.t 9)⟩,
  ⟨some 23, none, .nilc (.t 22)⟩,
  ⟨some 24, none, .fa 1 (.t 23)⟩,
  ⟨some 25, none, .ld (.t 24)⟩,
  ⟨some 26, none, .len 1 (.t 25)⟩,
  ⟨some 27, none, .bin .eql (.t 26) (.c (.int .i64 0))⟩])
  (.cond (.t 27)
  (.ops [⟨some 28, none, .mov (.t 0)⟩,
  ⟨some 29, none, .nilc (.t 28)⟩,
  ⟨some 30, none, .fa 1 (.t 29)⟩,
  ⟨some 31, none, .mov (.t 3)⟩,
  ⟨some 32, none, .bin .add (.t 31) (.c (.int .i64 8))⟩,
  ⟨some 33, none, .call n_pianolaref9_Wheel_Arm [(.t 30), (.c (.int .i64 3)), (.t 32)]⟩])
  (.skip)))
  (c0_pianolaref15_Bus_uart)
def c2_pianolaref15_Bus_uart : C :=
 .seq (.ops [⟨some 49, none, .mov (.t 2)⟩,
  ⟨some 50, none, .bin .and (.t 49) (.c (.int .u32 4))⟩,
  ⟨some 51, none, .bin .neq (.t 50) (.c (.int .u32 0))⟩])
  (.cond (.t 51)
  (.ops [⟨some 52, none, .mov (.t 9)⟩,
  ⟨some 53, none, .nilc (.t 52)⟩,
  ⟨some 54, none, .fa 2 (.t 53)⟩,
  ⟨none, none, .st (.t 54) (.c (.bool false))⟩])
  (.skip))
def c3_pianolaref15_Bus_uart : C :=
 .seq (.ops [⟨some 56, none, .bin .eql (.t 13) (.c (.int .u32 2))⟩,
  ⟨some 55, none, .mov (.t 56)⟩])
  (.cond (.t 55)
  (.ops [⟨some 57, none, .mov (.t 9)⟩,
  ⟨some 58, none, .mov (.t 2)⟩,
  ⟨some 59, none, .bin .and (.t 58) (.c (.int .u32 3))⟩,
  ⟨some 60, none, .nilc (.t 57)⟩,
  ⟨some 61, none, .fa 3 (.t 60)⟩,
  ⟨none, none, .st (.t 61) (.t 59)⟩])
  (.skip))
def c4_pianolaref15_Bus_uart : C :=
 .cond (.t 14)
  (.seq (.ops [⟨some 16, none, .mov (.t 9)⟩,
  ⟨some 17, none, .nilc (.t 16)⟩,
  ⟨some 18, none, .fa 1 (.t 17)⟩,
  ⟨some 19, none, .ld (.t 18)⟩,
  ⟨some 20, none, .len 1 (.t 19)⟩,
  ⟨some 21, none, .bin .lss (.t 20) (.c (.int .i64 16))⟩])
  (.cond (.t 21)
  (c1_pianolaref15_Bus_uart)
  (.skip)))
  (.seq (.ops [⟨some 48, none, .bin .eql (.t 13) (.c (.int .u32 1))⟩,
  ⟨some 47, none, .mov (.t 48)⟩])
  (.cond (.t 47)
  (c2_pianolaref15_Bus_uart)
  (c3_pianolaref15_Bus_uart)))
def c5_pianolaref15_Bus_uart : C :=
 .seq (.seq (.ops [⟨some 13, none, .mov (.t 1)⟩])
  (.block 0
  (.seq (.ops [⟨some 15, none, .bin .eql (.t 13) (.c (.int .u32 0))⟩,
  ⟨some 14, none, .mov (.t 15)⟩])
  (c4_pianolaref15_Bus_uart))))
  (.seq (.ops [⟨some 62, none, .mov (.t 1)⟩,
  ⟨some 63, none, .bin .lss (.t 62) (.c (.int .u32 3))⟩,
  ⟨some 8, none, .mov (.t 63)⟩])
  (.ret))
def c_pianolaref15_Bus_uart : C :=
 .seq (.ops [⟨some 8, none, .mov (.c (.bool false))⟩])
  (.seq (.ops [⟨some 10, none, .mov (.t 0)⟩,
  ⟨some 11, none, .nilc (.t 10)⟩,
  ⟨some 12, none, .fa 9 (.t 11)⟩,
  ⟨some 9, none, .mov (.t 12)⟩])
  (c5_pianolaref15_Bus_uart))
def f_pianolaref15_Bus_uart : F := ⟨c_pianolaref15_Bus_uart, [.t 8], some []⟩
theorem h_pianolaref15_Bus_uart : compF Tryz.prog (compAny Tryz.prog) n_pianolaref15_Bus_uart = some (f_pianolaref15_Bus_uart.body, f_pianolaref15_Bus_uart.res) := by kernel_rfl
def c0_pianolaref15_Bus_dma : C :=
 .any 0 [.op 4 ⟨some 57, none, .mov (.t 9)⟩,
  .op 5 ⟨some 58, none, .nilc (.t 57)⟩,
  .op 6 ⟨some 59, none, .fa 2 (.t 58)⟩,
  .op 7 ⟨some 60, none, .ld (.t 59)⟩,
  .op 0 ⟨some 53, none, .mov (.t 0)⟩,
  .op 1 ⟨some 54, none, .nilc (.t 53)⟩,
  .op 2 ⟨some 55, none, .fa 1 (.t 54)⟩,
  .op 3 ⟨some 56, none, .mov (.t 3)⟩,
  .op 8 ⟨some 61, none, .mn (.t 60) (.c (.int .u32 4096))⟩,
  .op 9 ⟨some 62, none, .conv .i64 (.t 61)⟩,
  .op 10 ⟨some 63, none, .bin .quo (.t 62) (.c (.int .i64 4))⟩,
  .op 11 ⟨some 64, none, .bin .add (.t 56) (.t 63)⟩,
  .op 12 ⟨some 65, none, .bin .add (.t 64) (.c (.int .i64 1))⟩,
  .op 13 ⟨some 66, none, .call n_pianolaref9_Wheel_Arm [(.t 55), (.c (.int .i64 4)), (.t 65)]⟩]
def c1_pianolaref15_Bus_dma : C :=
 .seq (.ops [⟨some 45, none, .mov (.t 9)⟩,
  ⟨some 46, none, .mov (.t 9)⟩,
  ⟨some 47, none, .nilc (.t 46)⟩,
  ⟨some 48, none, .fa 3 (.t 47)⟩,
  ⟨some 49, none, .ld (.t 48)⟩,
  ⟨some 50, none, .bin .or (.t 49) (.c (.int .u32 1))⟩,
  ⟨some 51, none, .nilc (.t 45)⟩,
  ⟨some 52, none, .fa 3 (.t 51)⟩,
  ⟨none, none, .st (.t 52) (.t 50)⟩])
  (c0_pianolaref15_Bus_dma)
def c2_pianolaref15_Bus_dma : C :=
 .seq (.ops [⟨some 34, none, .mov (.t 2)⟩,
  ⟨some 35, none, .bin .and (.t 34) (.c (.int .u32 1))⟩,
  ⟨some 36, none, .bin .neq (.t 35) (.c (.int .u32 0))⟩,
  ⟨some 37, none, .mov (.t 36)⟩,
  ⟨some 38, some (37, true), .mov (.t 9)⟩,
  ⟨some 39, some (37, true), .nilc (.t 38)⟩,
  ⟨some 40, some (37, true), .fa 3 (.t 39)⟩,
  ⟨some 41, some (37, true), .ld (.t 40)⟩,
  ⟨some 42, some (37, true), .bin .and (.t 41) (.c (.int .u32 1))⟩,
  ⟨some 43, some (37, true), .bin .eql (.t 42) (.c (.int .u32 0))⟩,
  ⟨some 44, none, .pick (.t 37) (.t 43) (.c (.bool false))⟩])
  (.cond (.t 44)
  (c1_pianolaref15_Bus_dma)
  (.skip))
def c3_pianolaref15_Bus_dma : C :=
 .ops [⟨some 69, none, .mov (.t 9)⟩,
  ⟨some 70, none, .mov (.t 9)⟩,
  ⟨some 71, none, .nilc (.t 70)⟩,
  ⟨some 72, none, .fa 3 (.t 71)⟩,
  ⟨some 73, none, .ld (.t 72)⟩,
  ⟨some 74, none, .mov (.t 2)⟩,
  ⟨some 75, none, .bin .and (.t 74) (.c (.int .u32 6))⟩,
  ⟨some 76, none, .bin .andNot (.t 73) (.t 75)⟩,
  ⟨some 77, none, .nilc (.t 69)⟩,
  ⟨some 78, none, .fa 3 (.t 77)⟩,
  ⟨none, none, .st (.t 78) (.t 76)⟩]
def c4_pianolaref15_Bus_dma : C :=
 .cond (.t 26)
  (.ops [⟨some 28, none, .mov (.t 9)⟩,
  ⟨some 29, none, .mov (.t 2)⟩,
  ⟨some 30, none, .nilc (.t 28)⟩,
  ⟨some 31, none, .fa 2 (.t 30)⟩,
  ⟨none, none, .st (.t 31) (.t 29)⟩])
  (.seq (.ops [⟨some 33, none, .bin .eql (.t 13) (.c (.int .u32 3))⟩,
  ⟨some 32, none, .mov (.t 33)⟩])
  (.cond (.t 32)
  (c2_pianolaref15_Bus_dma)
  (.seq (.ops [⟨some 68, none, .bin .eql (.t 13) (.c (.int .u32 4))⟩,
  ⟨some 67, none, .mov (.t 68)⟩])
  (.cond (.t 67)
  (c3_pianolaref15_Bus_dma)
  (.skip)))))
def c5_pianolaref15_Bus_dma : C :=
 .seq (.ops [⟨some 21, none, .bin .eql (.t 13) (.c (.int .u32 1))⟩,
  ⟨some 20, none, .mov (.t 21)⟩])
  (.cond (.t 20)
  (.ops [⟨some 22, none, .mov (.t 9)⟩,
  ⟨some 23, none, .mov (.t 2)⟩,
  ⟨some 24, none, .nilc (.t 22)⟩,
  ⟨some 25, none, .fa 1 (.t 24)⟩,
  ⟨none, none, .st (.t 25) (.t 23)⟩])
  (.seq (.ops [⟨some 27, none, .bin .eql (.t 13) (.c (.int .u32 2))⟩,
  ⟨some 26, none, .mov (.t 27)⟩])
  (c4_pianolaref15_Bus_dma)))
def c6_pianolaref15_Bus_dma : C :=
 .block 0
  (.seq (.ops [⟨some 15, none, .bin .eql (.t 13) (.c (.int .u32 0))⟩,
  ⟨some 14, none, .mov (.t 15)⟩])
  (.cond (.t 14)
  (.ops [⟨some 16, none, .mov (.t 9)⟩,
  ⟨some 17, none, .mov (.t 2)⟩,
  ⟨some 18, none, .nilc (.t 16)⟩,
  ⟨some 19, none, .fa 0 (.t 18)⟩,
  ⟨none, none, .st (.t 19) (.t 17)⟩])
  (c5_pianolaref15_Bus_dma)))
def c7_pianolaref15_Bus_dma : C :=
 .seq (.ops [⟨some 10, none, .mov (.t 0)⟩,
  ⟨some 11, none, .nilc (.t 10)⟩,
  ⟨some 12, none, .fa 14 (.t 11)⟩,
  ⟨some 9, none, .mov (.t 12)⟩])
  (.seq (.seq (.ops [⟨some 13, none, .mov (.t 1)⟩])
  (c6_pianolaref15_Bus_dma))
  (.seq (.ops [⟨some 79, none, .mov (.t 1)⟩,
  ⟨some 80, none, .bin .lss (.t 79) (.c (.int .u32 5))⟩,
  ⟨some 8, none, .mov (.t 80)⟩])
  (.ret)))
def c_pianolaref15_Bus_dma : C :=
 .seq (.ops [⟨some 8, none, .mov (.c (.bool false))⟩])
  (c7_pianolaref15_Bus_dma)
def f_pianolaref15_Bus_dma : F := ⟨c_pianolaref15_Bus_dma, [.t 8], some []⟩
theorem h_pianolaref15_Bus_dma : compF Tryz.prog (compAny Tryz.prog) n_pianolaref15_Bus_dma = some (f_pianolaref15_Bus_dma.body, f_pianolaref15_Bus_dma.res) := by kernel_rfl
def c0_pianolaref15_Bus_disk : C :=
 .seq (.ops [⟨some 38, none, .mov (.t 9)⟩,
  ⟨some 39, none, .mov (.t 9)⟩,
  ⟨some 40, none, .nilc (.t 39)⟩,
  ⟨some 41, none, .fa 3 (.t 40)⟩,
  ⟨some 42, none, .ld (.t 41)⟩,
  ⟨some 43, none, .bin .or (.t 42) (.c (.int .u32 1))⟩,
  ⟨some 44, none, .nilc (.t 38)⟩,
  ⟨some 45, none, .fa 3 (.t 44)⟩,
  ⟨none, none, .st (.t 45) (.t 43)⟩])
  (.ops [⟨some 46, none, .mov (.t 0)⟩,
  ⟨some 47, none, .nilc (.t 46)⟩,
  ⟨some 48, none, .fa 1 (.t 47)⟩,
  ⟨some 49, none, .mov (.t 3)⟩,
  ⟨some 50, none, .bin .add (.t 49) (.c (.int .i64 32))⟩,
  ⟨some 51, none, .call n_pianolaref9_Wheel_Arm [(.t 48), (.c (.int .i64 5)), (.t 50)]⟩])
def c1_pianolaref15_Bus_disk : C :=
 .seq (.ops [⟨some 28, none, .mov (.t 9)⟩,
  ⟨some 29, none, .nilc (.t 28)⟩,
  ⟨some 30, none, .fa 3 (.t 29)⟩,
  ⟨some 31, none, .ld (.t 30)⟩,
  ⟨some 32, none, .bin .and (.t 31) (.c (.int .u32 1))⟩,
  ⟨some 33, none, .bin .eql (.t 32) (.c (.int .u32 0))⟩])
  (.cond (.t 33)
  (.seq (.ops [⟨some 34, none, .mov (.t 9)⟩,
  ⟨some 35, none, .mov (.t 2)⟩,
  ⟨some 36, none, .nilc (.t 34)⟩,
  ⟨some 37, none, .fa 2 (.t 36)⟩,
  ⟨none, none, .st (.t 37) (.t 35)⟩])
  (c0_pianolaref15_Bus_disk))
  (.skip))
def c2_pianolaref15_Bus_disk : C :=
 .ops [⟨some 54, none, .mov (.t 9)⟩,
  ⟨some 55, none, .mov (.t 9)⟩,
  ⟨some 56, none, .nilc (.t 55)⟩,
  ⟨some 57, none, .fa 3 (.t 56)⟩,
  ⟨some 58, none, .ld (.t 57)⟩,
  ⟨some 59, none, .mov (.t 2)⟩,
  ⟨some 60, none, .bin .and (.t 59) (.c (.int .u32 6))⟩,
  ⟨some 61, none, .bin .andNot (.t 58) (.t 60)⟩,
  ⟨some 62, none, .nilc (.t 54)⟩,
  ⟨some 63, none, .fa 3 (.t 62)⟩,
  ⟨none, none, .st (.t 63) (.t 61)⟩]
def c3_pianolaref15_Bus_disk : C :=
 .cond (.t 20)
  (.ops [⟨some 22, none, .mov (.t 9)⟩,
  ⟨some 23, none, .mov (.t 2)⟩,
  ⟨some 24, none, .nilc (.t 22)⟩,
  ⟨some 25, none, .fa 1 (.t 24)⟩,
  ⟨none, none, .st (.t 25) (.t 23)⟩])
  (.seq (.ops [⟨some 27, none, .bin .eql (.t 13) (.c (.int .u32 2))⟩,
  ⟨some 26, none, .mov (.t 27)⟩])
  (.cond (.t 26)
  (c1_pianolaref15_Bus_disk)
  (.seq (.ops [⟨some 53, none, .bin .eql (.t 13) (.c (.int .u32 3))⟩,
  ⟨some 52, none, .mov (.t 53)⟩])
  (.cond (.t 52)
  (c2_pianolaref15_Bus_disk)
  (.skip)))))
def c4_pianolaref15_Bus_disk : C :=
 .block 0
  (.seq (.ops [⟨some 15, none, .bin .eql (.t 13) (.c (.int .u32 0))⟩,
  ⟨some 14, none, .mov (.t 15)⟩])
  (.cond (.t 14)
  (.ops [⟨some 16, none, .mov (.t 9)⟩,
  ⟨some 17, none, .mov (.t 2)⟩,
  ⟨some 18, none, .nilc (.t 16)⟩,
  ⟨some 19, none, .fa 0 (.t 18)⟩,
  ⟨none, none, .st (.t 19) (.t 17)⟩])
  (.seq (.ops [⟨some 21, none, .bin .eql (.t 13) (.c (.int .u32 1))⟩,
  ⟨some 20, none, .mov (.t 21)⟩])
  (c3_pianolaref15_Bus_disk))))
def c5_pianolaref15_Bus_disk : C :=
 .seq (.ops [⟨some 10, none, .mov (.t 0)⟩,
  ⟨some 11, none, .nilc (.t 10)⟩,
  ⟨some 12, none, .fa 18 (.t 11)⟩,
  ⟨some 9, none, .mov (.t 12)⟩])
  (.seq (.seq (.ops [⟨some 13, none, .mov (.t 1)⟩])
  (c4_pianolaref15_Bus_disk))
  (.seq (.ops [⟨some 64, none, .mov (.t 1)⟩,
  ⟨some 65, none, .bin .lss (.t 64) (.c (.int .u32 4))⟩,
  ⟨some 8, none, .mov (.t 65)⟩])
  (.ret)))
def c_pianolaref15_Bus_disk : C :=
 .seq (.ops [⟨some 8, none, .mov (.c (.bool false))⟩])
  (c5_pianolaref15_Bus_disk)
def f_pianolaref15_Bus_disk : F := ⟨c_pianolaref15_Bus_disk, [.t 8], some []⟩
theorem h_pianolaref15_Bus_disk : compF Tryz.prog (compAny Tryz.prog) n_pianolaref15_Bus_disk = some (f_pianolaref15_Bus_disk.body, f_pianolaref15_Bus_disk.res) := by kernel_rfl
def c0_wheel_Wheel_Next : C :=
 .seq (.ops [⟨some 10, none, .mov (.t 0)⟩,
  ⟨some 11, none, .nilc (.t 10)⟩,
  ⟨some 12, none, .fa 0 (.t 11)⟩,
  ⟨some 13, none, .ld (.t 12)⟩,
  ⟨some 14, none, .ia 3 (.t 13) (.c (.int .i64 0))⟩,
  ⟨some 15, none, .fa 0 (.t 14)⟩,
  ⟨some 16, none, .ld (.t 15)⟩,
  ⟨some 2, none, .mov (.t 16)⟩,
  ⟨some 3, none, .mov (.c (.bool true))⟩])
  (.ret)
def c1_wheel_Wheel_Next : C :=
 .seq (.seq (.ops [⟨some 4, none, .mov (.t 0)⟩,
  ⟨some 5, none, .nilc (.t 4)⟩,
  ⟨some 6, none, .fa 0 (.t 5)⟩,
  ⟨some 7, none, .ld (.t 6)⟩,
  ⟨some 8, none, .len 1 (.t 7)⟩,
  ⟨some 9, none, .bin .eql (.t 8) (.c (.int .i64 0))⟩])
  (.cond (.t 9)
  (.seq (.ops [⟨some 2, none, .mov (.c (.int .i64 0))⟩,
  ⟨some 3, none, .mov (.c (.bool false))⟩])
  (.ret))
  (.skip)))
  (c0_wheel_Wheel_Next)
def c_wheel_Wheel_Next : C :=
 .seq (.ops [⟨some 2, none, .mov (.c (.int .i64 0))⟩,
  ⟨some 3, none, .mov (.c (.bool false))⟩])
  (c1_wheel_Wheel_Next)
def f_wheel_Wheel_Next : F := ⟨c_wheel_Wheel_Next, [.t 2, .t 3], some []⟩
theorem h_wheel_Wheel_Next : compF Tryz.prog (compAny Tryz.prog) n_wheel_Wheel_Next = some (f_wheel_Wheel_Next.body, f_wheel_Wheel_Next.res) := by kernel_rfl
def c0_lines_Lines_Raised : C :=
 .seq (.any 0 [.op 0 ⟨some 3, none, .mov (.t 0)⟩,
  .op 1 ⟨some 4, none, .nilc (.t 3)⟩,
  .op 2 ⟨some 5, none, .fa 0 (.t 4)⟩,
  .op 3 ⟨some 6, none, .ld (.t 5)⟩,
  .op 4 ⟨some 7, none, .mov (.t 0)⟩,
  .op 5 ⟨some 8, none, .nilc (.t 7)⟩,
  .op 6 ⟨some 9, none, .fa 1 (.t 8)⟩,
  .op 7 ⟨some 10, none, .ld (.t 9)⟩,
  .op 8 ⟨some 11, none, .bin .and (.t 6) (.t 10)⟩,
  .op 9 ⟨some 12, none, .bin .neq (.t 11) (.c (.int .u32 0))⟩,
  .op 10 ⟨some 2, none, .mov (.t 12)⟩])
  (.ret)
def c_lines_Lines_Raised : C :=
 .seq (.ops [⟨some 2, none, .mov (.c (.bool false))⟩])
  (c0_lines_Lines_Raised)
def f_lines_Lines_Raised : F := ⟨c_lines_Lines_Raised, [.t 2], some []⟩
theorem h_lines_Lines_Raised : compF Tryz.prog (compAny Tryz.prog) n_lines_Lines_Raised = some (f_lines_Lines_Raised.body, f_lines_Lines_Raised.res) := by kernel_rfl
def c_wheel_Wheel_All : C :=
 .seq (.ops [⟨some 2, none, .mov (.c (.slice none 0 0))⟩])
  (.seq (.ops [⟨some 3, none, .mov (.t 0)⟩,
  ⟨some 4, none, .nilc (.t 3)⟩,
  ⟨some 5, none, .fa 0 (.t 4)⟩,
  ⟨some 6, none, .ld (.t 5)⟩,
  ⟨some 7, none, .call n_slices_Clone_api_Event_api_Event [(.t 6)]⟩,
  ⟨some 2, none, .mov (.t 7)⟩])
  (.ret))
def f_wheel_Wheel_All : F := ⟨c_wheel_Wheel_All, [.t 2], some []⟩
theorem h_wheel_Wheel_All : compF Tryz.prog (compAny Tryz.prog) n_wheel_Wheel_All = some (f_wheel_Wheel_All.body, f_wheel_Wheel_All.res) := by kernel_rfl
def c_uart_Uart_Out : C :=
 .seq (.ops [⟨some 2, none, .mov (.c (.slice none 0 0))⟩])
  (.seq (.ops [⟨some 3, none, .mov (.t 0)⟩,
  ⟨some 4, none, .nilc (.t 3)⟩,
  ⟨some 5, none, .fa 6 (.t 4)⟩,
  ⟨some 6, none, .ld (.t 5)⟩,
  ⟨some 7, none, .call n_slices_Clone_byte_byte [(.t 6)]⟩,
  ⟨some 2, none, .mov (.t 7)⟩])
  (.ret))
def f_uart_Uart_Out : F := ⟨c_uart_Uart_Out, [.t 2], some []⟩
theorem h_uart_Uart_Out : compF Tryz.prog (compAny Tryz.prog) n_uart_Uart_Out = some (f_uart_Uart_Out.body, f_uart_Uart_Out.res) := by kernel_rfl
def c_disk_Disk_Bytes : C :=
 .seq (.ops [⟨some 2, none, .mov (.c (.slice none 0 0))⟩])
  (.seq (.ops [⟨some 3, none, .mov (.t 0)⟩,
  ⟨some 4, none, .nilc (.t 3)⟩,
  ⟨some 5, none, .fa 3 (.t 4)⟩,
  ⟨some 6, none, .ld (.t 5)⟩,
  ⟨some 7, none, .call n_slices_Clone_byte_byte [(.t 6)]⟩,
  ⟨some 2, none, .mov (.t 7)⟩])
  (.ret))
def f_disk_Disk_Bytes : F := ⟨c_disk_Disk_Bytes, [.t 2], some []⟩
theorem h_disk_Disk_Bytes : compF Tryz.prog (compAny Tryz.prog) n_disk_Disk_Bytes = some (f_disk_Disk_Bytes.body, f_disk_Disk_Bytes.res) := by kernel_rfl
def c0_slices_Delete_api_Event_api_Event : C :=
 .seq (.ops [⟨some 27, none, .mov (.t 0)⟩,
  ⟨some 28, none, .mov (.t 0)⟩,
  ⟨some 29, none, .len 1 (.t 28)⟩,
  ⟨some 30, none, .mov (.t 7)⟩,
  ⟨some 31, none, .sl 3 (.t 27) (some (.t 29)) (some (.t 30)) none⟩,
  ⟨none, none, .clr [(.int .i64 0), (.int .i64 0), (.int .i64 0)] (.t 31)⟩])
  (.seq (.ops [⟨some 32, none, .mov (.t 0)⟩,
  ⟨some 6, none, .mov (.t 32)⟩])
  (.ret))
def c1_slices_Delete_api_Event_api_Event : C :=
 .seq (.any 0 [.op 0 ⟨some 20, none, .mov (.t 0)⟩,
  .op 1 ⟨some 21, none, .mov (.t 1)⟩,
  .op 2 ⟨some 22, none, .sl 3 (.t 20) none (some (.t 21)) none⟩,
  .op 3 ⟨some 23, none, .mov (.t 0)⟩,
  .op 4 ⟨some 24, none, .mov (.t 2)⟩,
  .op 5 ⟨some 25, none, .sl 3 (.t 23) (some (.t 24)) none none⟩,
  .op 6 ⟨some 26, none, .app 3 24 (.t 22) (.t 25)⟩,
  .op 7 ⟨some 0, none, .mov (.t 26)⟩])
  (c0_slices_Delete_api_Event_api_Event)
def c2_slices_Delete_api_Event_api_Event : C :=
 .seq (.seq (.ops [⟨some 14, none, .mov (.t 1)⟩,
  ⟨some 15, none, .mov (.t 2)⟩,
  ⟨some 16, none, .bin .eql (.t 14) (.t 15)⟩])
  (.cond (.t 16)
  (.seq (.ops [⟨some 17, none, .mov (.t 0)⟩,
  ⟨some 6, none, .mov (.t 17)⟩])
  (.ret))
  (.skip)))
  (.seq (.ops [⟨some 18, none, .mov (.t 0)⟩,
  ⟨some 19, none, .len 1 (.t 18)⟩,
  ⟨some 7, none, .mov (.t 19)⟩])
  (c1_slices_Delete_api_Event_api_Event))
def c_slices_Delete_api_Event_api_Event : C :=
 .seq (.ops [⟨some 6, none, .mov (.c (.slice none 0 0))⟩])
  (.seq (.ops [⟨some 8, none, .mov (.t 0)⟩,
  ⟨some 9, none, .mov (.t 1)⟩,
  ⟨some 10, none, .mov (.t 2)⟩,
  ⟨some 11, none, .mov (.t 0)⟩,
  ⟨some 12, none, .len 1 (.t 11)⟩,
  ⟨some 13, none, .sl 3 (.t 8) (some (.t 9)) (some (.t 10)) (some (.t 12))⟩])
  (c2_slices_Delete_api_Event_api_Event))
def f_slices_Delete_api_Event_api_Event : F := ⟨c_slices_Delete_api_Event_api_Event, [.t 6], some []⟩
theorem h_slices_Delete_api_Event_api_Event : compF Tryz.prog (compAny Tryz.prog) n_slices_Delete_api_Event_api_Event = some (f_slices_Delete_api_Event_api_Event.body, f_slices_Delete_api_Event_api_Event.res) := by kernel_rfl
def c0_timer_Timer_Fire : C :=
 .cond (.t 12)
  (.ops [⟨some 13, none, .mov (.t 0)⟩,
  ⟨some 14, none, .mov (.t 1)⟩,
  ⟨some 15, none, .call n_timer_Timer_arm [(.t 13), (.t 14)]⟩])
  (.ops [⟨some 16, none, .mov (.t 0)⟩,
  ⟨some 17, none, .nilc (.t 16)⟩,
  ⟨some 18, none, .fa 2 (.t 17)⟩,
  ⟨some 19, none, .ld (.t 18)⟩,
  ⟨some 20, none, .bin .andNot (.t 19) (.c (.int .u32 1))⟩,
  ⟨some 21, none, .nilc (.t 16)⟩,
  ⟨some 22, none, .fa 2 (.t 21)⟩,
  ⟨none, none, .st (.t 22) (.t 20)⟩])
def c_timer_Timer_Fire : C :=
 .seq (.ops [⟨some 4, none, .mov (.t 0)⟩,
  ⟨some 5, none, .nilc (.t 4)⟩,
  ⟨some 6, none, .fa 4 (.t 5)⟩,
  ⟨none, none, .st (.t 6) (.c (.int .u32 1))⟩])
  (.seq (.ops [⟨some 7, none, .mov (.t 0)⟩,
  ⟨some 8, none, .nilc (.t 7)⟩,
  ⟨some 9, none, .fa 2 (.t 8)⟩,
  ⟨some 10, none, .ld (.t 9)⟩,
  ⟨some 11, none, .bin .and (.t 10) (.c (.int .u32 2))⟩,
  ⟨some 12, none, .bin .neq (.t 11) (.c (.int .u32 0))⟩])
  (c0_timer_Timer_Fire))
def f_timer_Timer_Fire : F := ⟨c_timer_Timer_Fire, [], some []⟩
theorem h_timer_Timer_Fire : compF Tryz.prog (compAny Tryz.prog) n_timer_Timer_Fire = some (f_timer_Timer_Fire.body, f_timer_Timer_Fire.res) := by kernel_rfl
def c0_uart_Uart_Fire : C :=
 .ops [⟨some 23, none, .mov (.t 0)⟩,
  ⟨some 24, none, .mov (.t 0)⟩,
  ⟨some 25, none, .nilc (.t 24)⟩,
  ⟨some 26, none, .fa 6 (.t 25)⟩,
  ⟨some 27, none, .ld (.t 26)⟩,
  ⟨some 28, none, .mov (.t 4)⟩,
  ⟨some 29, none, .bsl 1 [(.int .u8 0)] [(0, 1, (.t 28))]⟩,
  ⟨some 30, none, .app 1 1 (.t 27) (.t 29)⟩,
  ⟨some 31, none, .nilc (.t 23)⟩,
  ⟨some 32, none, .fa 6 (.t 31)⟩,
  ⟨none, none, .st (.t 32) (.t 30)⟩]
def c1_uart_Uart_Fire : C :=
 .seq (.ops [⟨some 14, none, .mov (.t 5)⟩,
  ⟨some 15, none, .mov (.t 14)⟩,
  ⟨some 16, some (15, true), .mov (.t 0)⟩,
  ⟨some 17, some (15, true), .nilc (.t 16)⟩,
  ⟨some 18, some (15, true), .fa 6 (.t 17)⟩,
  ⟨some 19, some (15, true), .ld (.t 18)⟩,
  ⟨some 20, some (15, true), .len 1 (.t 19)⟩,
  ⟨some 21, some (15, true), .bin .lss (.t 20) (.c (.int .i64 65536))⟩,
  ⟨some 22, none, .pick (.t 15) (.t 21) (.c (.bool false))⟩])
  (.cond (.t 22)
  (c0_uart_Uart_Fire)
  (.skip))
def c2_uart_Uart_Fire : C :=
 .seq (.ops [⟨some 33, none, .mov (.t 0)⟩,
  ⟨some 34, none, .nilc (.t 33)⟩,
  ⟨some 35, none, .fa 3 (.t 34)⟩,
  ⟨some 36, none, .ld (.t 35)⟩,
  ⟨some 37, none, .len 3 (.t 36)⟩,
  ⟨some 38, none, .bin .gtr (.t 37) (.c (.int .i64 0))⟩])
  (.cond (.t 38)
  (.ops [⟨some 39, none, .mov (.t 0)⟩,
  ⟨some 40, none, .mov (.t 1)⟩,
  ⟨some 41, none, .call n_uart_Uart_arm [(.t 39), (.t 40)]⟩])
  (.skip))
def c_uart_Uart_Fire : C :=
 .seq (.seq (.ops [⟨some 7, none, .mov (.t 0)⟩,
  ⟨some 8, none, .nilc (.t 7)⟩,
  ⟨some 9, none, .fa 3 (.t 8)⟩,
  ⟨some 10, none, .ld (.t 9)⟩,
  ⟨some 11, none, .call n_uart_take [(.t 10)]⟩,
  ⟨some 6, none, .mov (.t 11)⟩,
  ⟨some 12, none, .ext (.t 6) 0⟩,
  ⟨some 13, none, .ext (.t 6) 1⟩,
  ⟨some 4, none, .mov (.t 12)⟩,
  ⟨some 5, none, .mov (.t 13)⟩])
  (c1_uart_Uart_Fire))
  (c2_uart_Uart_Fire)
def f_uart_Uart_Fire : F := ⟨c_uart_Uart_Fire, [], some []⟩
theorem h_uart_Uart_Fire : compF Tryz.prog (compAny Tryz.prog) n_uart_Uart_Fire = some (f_uart_Uart_Fire.body, f_uart_Uart_Fire.res) := by kernel_rfl
def c0_dma_Dma_Fire : C :=
 .cond (.t 15)
  (.ops [⟨some 16, none, .mov (.t 0)⟩,
  ⟨some 17, none, .nilc (.t 16)⟩,
  ⟨some 18, none, .fa 6 (.t 17)⟩,
  ⟨some 19, none, .ld (.t 18)⟩,
  ⟨some 20, none, .bin .or (.t 19) (.c (.int .u32 4))⟩,
  ⟨some 21, none, .nilc (.t 16)⟩,
  ⟨some 22, none, .fa 6 (.t 21)⟩,
  ⟨none, none, .st (.t 22) (.t 20)⟩])
  (.skip)
def c_dma_Dma_Fire : C :=
 .seq (.ops [⟨some 4, none, .mov (.t 0)⟩,
  ⟨some 5, none, .mov (.t 0)⟩,
  ⟨some 6, none, .nilc (.t 5)⟩,
  ⟨some 7, none, .fa 6 (.t 6)⟩,
  ⟨some 8, none, .ld (.t 7)⟩,
  ⟨some 9, none, .bin .andNot (.t 8) (.c (.int .u32 1))⟩,
  ⟨some 10, none, .bin .or (.t 9) (.c (.int .u32 2))⟩,
  ⟨some 11, none, .nilc (.t 4)⟩,
  ⟨some 12, none, .fa 6 (.t 11)⟩,
  ⟨none, none, .st (.t 12) (.t 10)⟩])
  (.seq (.ops [⟨some 13, none, .mov (.t 0)⟩,
  ⟨some 14, none, .call n_dma_Dma_move [(.t 13)]⟩,
  ⟨some 15, none, .un .not (.t 14)⟩])
  (c0_dma_Dma_Fire))
def f_dma_Dma_Fire : F := ⟨c_dma_Dma_Fire, [], some []⟩
theorem h_dma_Dma_Fire : compF Tryz.prog (compAny Tryz.prog) n_dma_Dma_Fire = some (f_dma_Dma_Fire.body, f_dma_Dma_Fire.res) := by kernel_rfl
def c0_disk_Disk_Fire : C :=
 .cond (.t 15)
  (.ops [⟨some 16, none, .mov (.t 0)⟩,
  ⟨some 17, none, .nilc (.t 16)⟩,
  ⟨some 18, none, .fa 7 (.t 17)⟩,
  ⟨some 19, none, .ld (.t 18)⟩,
  ⟨some 20, none, .bin .or (.t 19) (.c (.int .u32 4))⟩,
  ⟨some 21, none, .nilc (.t 16)⟩,
  ⟨some 22, none, .fa 7 (.t 21)⟩,
  ⟨none, none, .st (.t 22) (.t 20)⟩])
  (.skip)
def c_disk_Disk_Fire : C :=
 .seq (.ops [⟨some 4, none, .mov (.t 0)⟩,
  ⟨some 5, none, .mov (.t 0)⟩,
  ⟨some 6, none, .nilc (.t 5)⟩,
  ⟨some 7, none, .fa 7 (.t 6)⟩,
  ⟨some 8, none, .ld (.t 7)⟩,
  ⟨some 9, none, .bin .andNot (.t 8) (.c (.int .u32 1))⟩,
  ⟨some 10, none, .bin .or (.t 9) (.c (.int .u32 2))⟩,
  ⟨some 11, none, .nilc (.t 4)⟩,
  ⟨some 12, none, .fa 7 (.t 11)⟩,
  ⟨none, none, .st (.t 12) (.t 10)⟩])
  (.seq (.ops [⟨some 13, none, .mov (.t 0)⟩,
  ⟨some 14, none, .call n_disk_Disk_do [(.t 13)]⟩,
  ⟨some 15, none, .un .not (.t 14)⟩])
  (c0_disk_Disk_Fire))
def f_disk_Disk_Fire : F := ⟨c_disk_Disk_Fire, [], some []⟩
theorem h_disk_Disk_Fire : compF Tryz.prog (compAny Tryz.prog) n_disk_Disk_Fire = some (f_disk_Disk_Fire.body, f_disk_Disk_Fire.res) := by kernel_rfl
def c0_pianolaref9_Wheel_Arm : C :=
 .seq (.seq (.ops [⟨some 21, none, .mov (.t 7)⟩,
  ⟨some 22, none, .mov (.t 0)⟩,
  ⟨some 23, none, .nilc (.t 22)⟩,
  ⟨some 24, none, .fa 0 (.t 23)⟩,
  ⟨some 25, none, .ld (.t 24)⟩,
  ⟨some 26, none, .len 1 (.t 25)⟩,
  ⟨some 27, none, .bin .lss (.t 21) (.t 26)⟩,
  ⟨some 28, none, .mov (.t 27)⟩,
  ⟨some 29, some (28, true), .mov (.t 0)⟩,
  ⟨some 30, some (28, true), .nilc (.t 29)⟩,
  ⟨some 31, some (28, true), .fa 0 (.t 30)⟩,
  ⟨some 32, some (28, true), .ld (.t 31)⟩,
  ⟨some 33, some (28, true), .mov (.t 7)⟩,
  ⟨some 34, some (28, true), .ia 3 (.t 32) (.t 33)⟩,
  ⟨some 35, some (28, true), .fa 0 (.t 34)⟩,
  ⟨some 36, some (28, true), .ld (.t 35)⟩,
  ⟨some 37, some (28, true), .mov (.t 2)⟩,
  ⟨some 38, some (28, true), .bin .leq (.t 36) (.t 37)⟩,
  ⟨some 39, none, .pick (.t 28) (.t 38) (.c (.bool false))⟩])
  (.cond (.t 39)
  (.skip)
  (.exit 0)))
  (.block 1
  (.ops [⟨some 40, none, .mov (.t 7)⟩,
  ⟨some 41, none, .bin .add (.t 40) (.c (.int .i64 1))⟩,
  ⟨some 7, none, .mov (.t 41)⟩]))
def c1_pianolaref9_Wheel_Arm : C :=
 .seq (.ops [⟨some 69, none, .mov (.t 0)⟩,
  ⟨some 70, none, .nilc (.t 69)⟩,
  ⟨some 71, none, .fa 1 (.t 70)⟩,
  ⟨some 72, none, .ld (.t 71)⟩,
  ⟨some 73, none, .bin .add (.t 72) (.c (.int .i64 1))⟩,
  ⟨some 74, none, .nilc (.t 69)⟩,
  ⟨some 75, none, .fa 1 (.t 74)⟩,
  ⟨none, none, .st (.t 75) (.t 73)⟩])
  (.seq (.ops [⟨some 6, none, .mov (.c (.bool true))⟩])
  (.ret))
def c2_pianolaref9_Wheel_Arm : C :=
 .seq (.any 2 [.op 2 ⟨some 44, none, .mov (.t 0)⟩,
  .op 3 ⟨some 45, none, .nilc (.t 44)⟩,
  .op 4 ⟨some 46, none, .fa 0 (.t 45)⟩,
  .op 5 ⟨some 47, none, .ld (.t 46)⟩,
  .op 11 ⟨some 53, none, .mov (.t 0)⟩,
  .op 12 ⟨some 54, none, .nilc (.t 53)⟩,
  .op 13 ⟨some 55, none, .fa 1 (.t 54)⟩,
  .op 14 ⟨some 56, none, .ld (.t 55)⟩,
  .op 18 ⟨some 60, none, .mov (.t 0)⟩,
  .op 19 ⟨some 61, none, .nilc (.t 60)⟩,
  .op 20 ⟨some 62, none, .fa 0 (.t 61)⟩,
  .op 21 ⟨some 63, none, .ld (.t 62)⟩,
  .al 1 0 ⟨some 43, none, .bsl 0 [] []⟩,
  .op 6 ⟨some 48, none, .mov (.t 7)⟩,
  .op 7 ⟨some 49, none, .sl 3 (.t 47) none (some (.t 48)) none⟩,
  .op 8 ⟨some 50, none, .app 3 24 (.t 43) (.t 49)⟩,
  .re 14 ⟨some 56, none, .ld (.t 55)⟩,
  .re 21 ⟨some 63, none, .ld (.t 62)⟩,
  .op 9 ⟨some 51, none, .mov (.t 2)⟩,
  .op 10 ⟨some 52, none, .mov (.t 1)⟩,
  .op 15 ⟨some 57, none, .build [(.int .i64 0), (.int .i64 0), (.int .i64 0)] [(0, 1, (.t 51)), (1, 1, (.t 52)), (2, 1, (.t 56))]⟩,
  .al 16 1 ⟨some 58, none, .bsl 1 [(.int .i64 0), (.int .i64 0), (.int .i64 0)] [(0, 3, (.t 57))]⟩,
  .op 17 ⟨some 59, none, .app 3 24 (.t 50) (.t 58)⟩,
  .re 21 ⟨some 63, none, .ld (.t 62)⟩,
  .op 22 ⟨some 64, none, .mov (.t 7)⟩,
  .op 23 ⟨some 65, none, .sl 3 (.t 63) (some (.t 64)) none none⟩,
  .op 24 ⟨some 66, none, .app 3 24 (.t 59) (.t 65)⟩,
  .op 0 ⟨some 42, none, .mov (.t 0)⟩,
  .op 25 ⟨some 67, none, .nilc (.t 42)⟩,
  .op 26 ⟨some 68, none, .fa 0 (.t 67)⟩,
  .op 27 ⟨none, none, .st (.t 68) (.t 66)⟩])
  (c1_pianolaref9_Wheel_Arm)
def c3_pianolaref9_Wheel_Arm : C :=
 .seq (.seq (.ops [⟨some 8, none, .mov (.t 1)⟩,
  ⟨some 9, none, .bin .lss (.t 8) (.c (.int .i64 0))⟩,
  ⟨some 10, none, .mov (.t 9)⟩,
  ⟨some 11, some (10, false), .mov (.t 1)⟩,
  ⟨some 12, some (10, false), .bin .geq (.t 11) (.c (.int .i64 16))⟩,
  ⟨some 13, none, .pick (.t 10) (.c (.bool true)) (.t 12)⟩,
  ⟨some 14, none, .mov (.t 13)⟩,
  ⟨some 15, some (14, false), .mov (.t 2)⟩,
  ⟨some 16, some (14, false), .bin .lss (.t 15) (.c (.int .i64 0))⟩,
  ⟨some 17, none, .pick (.t 14) (.c (.bool true)) (.t 16)⟩])
  (.cond (.t 17)
  (.seq (.ops [⟨some 6, none, .mov (.c (.bool false))⟩])
  (.ret))
  (.skip)))
  (.seq (.ops [⟨some 18, none, .mov (.t 0)⟩,
  ⟨some 19, none, .mov (.t 1)⟩,
  ⟨some 20, none, .call n_pianolaref9_Wheel_Cancel [(.t 18), (.t 19)]⟩])
  (.seq (.ops [⟨some 7, none, .mov (.c (.int .i64 0))⟩])
  (.seq (.block 0
  (.loop c0_pianolaref9_Wheel_Arm))
  (c2_pianolaref9_Wheel_Arm))))
def c_pianolaref9_Wheel_Arm : C :=
 .seq (.ops [⟨some 6, none, .mov (.c (.bool false))⟩])
  (c3_pianolaref9_Wheel_Arm)
def f_pianolaref9_Wheel_Arm : F := ⟨c_pianolaref9_Wheel_Arm, [.t 6], some []⟩
theorem h_pianolaref9_Wheel_Arm : compF Tryz.prog (compAny Tryz.prog) n_pianolaref9_Wheel_Arm = some (f_pianolaref9_Wheel_Arm.body, f_pianolaref9_Wheel_Arm.res) := by kernel_rfl
def c0_pianolaref15_Bus_move : C :=
 .seq (.ops [⟨some 56, none, .mov (.t 2)⟩,
  ⟨some 57, none, .mov (.t 2)⟩,
  ⟨some 58, none, .nilc (.t 57)⟩,
  ⟨some 59, none, .fa 3 (.t 58)⟩,
  ⟨some 60, none, .ld (.t 59)⟩,
  ⟨some 61, none, .bin .or (.t 60) (.c (.int .u32 4))⟩,
  ⟨some 62, none, .nilc (.t 56)⟩,
  ⟨some 63, none, .fa 3 (.t 62)⟩,
  ⟨none, none, .st (.t 63) (.t 61)⟩])
  (.ret)
def c1_pianolaref15_Bus_move : C :=
 .any 0 [.op 0 ⟨some 81, none, .mov (.t 0)⟩,
  .op 1 ⟨some 82, none, .nilc (.t 81)⟩,
  .op 2 ⟨some 83, none, .fa 0 (.t 82)⟩,
  .op 3 ⟨some 84, none, .ld (.t 83)⟩,
  .op 4 ⟨some 85, none, .mov (.t 2)⟩,
  .op 5 ⟨some 86, none, .nilc (.t 85)⟩,
  .op 6 ⟨some 87, none, .fa 1 (.t 86)⟩,
  .op 7 ⟨some 88, none, .ld (.t 87)⟩,
  .op 8 ⟨some 89, none, .mov (.t 3)⟩,
  .op 9 ⟨some 90, none, .call n_pianolaref2_Ram_Put [(.t 84), (.t 88), (.t 89)]⟩]
def c2_pianolaref15_Bus_move : C :=
 .seq (.any 0 [.op 0 ⟨some 65, none, .mov (.t 0)⟩,
  .op 1 ⟨some 66, none, .nilc (.t 65)⟩,
  .op 2 ⟨some 67, none, .fa 0 (.t 66)⟩,
  .op 3 ⟨some 68, none, .ld (.t 67)⟩,
  .op 4 ⟨some 69, none, .mov (.t 2)⟩,
  .op 5 ⟨some 70, none, .nilc (.t 69)⟩,
  .op 6 ⟨some 71, none, .fa 0 (.t 70)⟩,
  .op 7 ⟨some 72, none, .ld (.t 71)⟩,
  .op 8 ⟨some 73, none, .mov (.t 2)⟩,
  .op 9 ⟨some 74, none, .nilc (.t 73)⟩,
  .op 10 ⟨some 75, none, .fa 2 (.t 74)⟩,
  .op 11 ⟨some 76, none, .ld (.t 75)⟩,
  .op 12 ⟨some 77, none, .conv .i64 (.t 76)⟩,
  .op 13 ⟨some 78, none, .call n_pianolaref2_Ram_Bytes [(.t 68), (.t 72), (.t 77)]⟩,
  .op 14 ⟨some 64, none, .mov (.t 78)⟩,
  .op 15 ⟨some 79, none, .ext (.t 64) 0⟩,
  .op 16 ⟨some 80, none, .ext (.t 64) 1⟩,
  .op 17 ⟨some 3, none, .mov (.t 79)⟩,
  .op 18 ⟨some 4, none, .mov (.t 80)⟩])
  (c1_pianolaref15_Bus_move)
def c3_pianolaref15_Bus_move : C :=
 .seq (.seq (.any 0 [.op 0 ⟨some 17, none, .mov (.t 2)⟩,
  .op 1 ⟨some 18, none, .nilc (.t 17)⟩,
  .op 2 ⟨some 19, none, .fa 2 (.t 18)⟩,
  .op 3 ⟨some 20, none, .ld (.t 19)⟩,
  .op 4 ⟨some 21, none, .bin .gtr (.t 20) (.c (.int .u32 4096))⟩,
  .op 5 ⟨some 22, none, .mov (.t 21)⟩,
  .op 6 ⟨some 23, some (22, false), .mov (.t 0)⟩,
  .op 7 ⟨some 24, some (22, false), .nilc (.t 23)⟩,
  .op 8 ⟨some 25, some (22, false), .fa 0 (.t 24)⟩,
  .op 9 ⟨some 26, some (22, false), .ld (.t 25)⟩,
  .op 10 ⟨some 27, some (22, false), .mov (.t 2)⟩,
  .op 11 ⟨some 28, some (22, false), .nilc (.t 27)⟩,
  .op 12 ⟨some 29, some (22, false), .fa 0 (.t 28)⟩,
  .op 13 ⟨some 30, some (22, false), .ld (.t 29)⟩,
  .op 14 ⟨some 31, some (22, false), .mov (.t 2)⟩,
  .op 15 ⟨some 32, some (22, false), .nilc (.t 31)⟩,
  .op 16 ⟨some 33, some (22, false), .fa 2 (.t 32)⟩,
  .op 17 ⟨some 34, some (22, false), .ld (.t 33)⟩,
  .op 18 ⟨some 35, some (22, false), .conv .i64 (.t 34)⟩,
  .op 19 ⟨some 36, some (22, false), .call n_pianolaref2_Ram_In [(.t 26), (.t 30), (.t 35)]⟩,
  .op 20 ⟨some 37, some (22, false), .un .not (.t 36)⟩,
  .op 21 ⟨some 38, none, .pick (.t 22) (.c (.bool true)) (.t 37)⟩,
  .op 22 ⟨some 39, none, .mov (.t 38)⟩,
  .op 23 ⟨some 40, some (39, false), .mov (.t 0)⟩,
  .op 24 ⟨some 41, some (39, false), .nilc (.t 40)⟩,
  .op 25 ⟨some 42, some (39, false), .fa 0 (.t 41)⟩,
  .op 26 ⟨some 43, some (39, false), .ld (.t 42)⟩,
  .op 27 ⟨some 44, some (39, false), .mov (.t 2)⟩,
  .op 28 ⟨some 45, some (39, false), .nilc (.t 44)⟩,
  .op 29 ⟨some 46, some (39, false), .fa 1 (.t 45)⟩,
  .op 30 ⟨some 47, some (39, false), .ld (.t 46)⟩,
  .op 31 ⟨some 48, some (39, false), .mov (.t 2)⟩,
  .op 32 ⟨some 49, some (39, false), .nilc (.t 48)⟩,
  .op 33 ⟨some 50, some (39, false), .fa 2 (.t 49)⟩,
  .op 34 ⟨some 51, some (39, false), .ld (.t 50)⟩,
  .op 35 ⟨some 52, some (39, false), .conv .i64 (.t 51)⟩,
  .op 36 ⟨some 53, some (39, false), .call n_pianolaref2_Ram_In [(.t 43), (.t 47), (.t 52)]⟩,
  .op 37 ⟨some 54, some (39, false), .un .not (.t 53)⟩,
  .op 38 ⟨some 55, none, .pick (.t 39) (.c (.bool true)) (.t 54)⟩])
  (.cond (.t 55)
  (c0_pianolaref15_Bus_move)
  (.skip)))
  (c2_pianolaref15_Bus_move)
def c4_pianolaref15_Bus_move : C :=
 .seq (.ops [⟨some 8, none, .mov (.t 2)⟩,
  ⟨some 9, none, .mov (.t 2)⟩,
  ⟨some 10, none, .nilc (.t 9)⟩,
  ⟨some 11, none, .fa 3 (.t 10)⟩,
  ⟨some 12, none, .ld (.t 11)⟩,
  ⟨some 13, none, .bin .andNot (.t 12) (.c (.int .u32 1))⟩,
  ⟨some 14, none, .bin .or (.t 13) (.c (.int .u32 2))⟩,
  ⟨some 15, none, .nilc (.t 8)⟩,
  ⟨some 16, none, .fa 3 (.t 15)⟩,
  ⟨none, none, .st (.t 16) (.t 14)⟩])
  (c3_pianolaref15_Bus_move)
def c_pianolaref15_Bus_move : C :=
 .seq (.ops [⟨some 5, none, .mov (.t 0)⟩,
  ⟨some 6, none, .nilc (.t 5)⟩,
  ⟨some 7, none, .fa 14 (.t 6)⟩,
  ⟨some 2, none, .mov (.t 7)⟩])
  (c4_pianolaref15_Bus_move)
def f_pianolaref15_Bus_move : F := ⟨c_pianolaref15_Bus_move, [], some []⟩
theorem h_pianolaref15_Bus_move : compF Tryz.prog (compAny Tryz.prog) n_pianolaref15_Bus_move = some (f_pianolaref15_Bus_move.body, f_pianolaref15_Bus_move.res) := by kernel_rfl
end Go.Proofs.YtpdfdemoflofhaaGreat.Cd

set_option maxRecDepth 100000
set_option linter.defProp false
namespace Go.Proofs.YtpdfdemoflofhaaGreat.Cd
open Go Go.Dx
def c0_pianolaref15_Bus_sector : C :=
 .seq (.ops [⟨some 56, none, .mov (.t 2)⟩,
  ⟨some 57, none, .mov (.t 2)⟩,
  ⟨some 58, none, .nilc (.t 57)⟩,
  ⟨some 59, none, .fa 3 (.t 58)⟩,
  ⟨some 60, none, .ld (.t 59)⟩,
  ⟨some 61, none, .bin .or (.t 60) (.c (.int .u32 4))⟩,
  ⟨some 62, none, .nilc (.t 56)⟩,
  ⟨some 63, none, .fa 3 (.t 62)⟩,
  ⟨none, none, .st (.t 63) (.t 61)⟩])
  (.ret)
def c1_pianolaref15_Bus_sector : C :=
 .seq (.any 0 [.op 0 ⟨some 75, none, .mov (.t 0)⟩,
  .op 1 ⟨some 76, none, .nilc (.t 75)⟩,
  .op 2 ⟨some 77, none, .fa 0 (.t 76)⟩,
  .op 3 ⟨some 78, none, .ld (.t 77)⟩,
  .op 4 ⟨some 79, none, .mov (.t 2)⟩,
  .op 5 ⟨some 80, none, .nilc (.t 79)⟩,
  .op 6 ⟨some 81, none, .fa 1 (.t 80)⟩,
  .op 7 ⟨some 82, none, .ld (.t 81)⟩,
  .op 8 ⟨some 83, none, .mov (.t 2)⟩,
  .op 9 ⟨some 84, none, .nilc (.t 83)⟩,
  .op 10 ⟨some 85, none, .fa 4 (.t 84)⟩,
  .op 11 ⟨some 86, none, .ld (.t 85)⟩,
  .op 12 ⟨some 87, none, .mov (.t 3)⟩,
  .op 13 ⟨some 88, none, .mov (.t 3)⟩,
  .op 14 ⟨some 89, none, .bin .add (.t 88) (.c (.int .i64 64))⟩,
  .op 15 ⟨some 90, none, .sl 1 (.t 86) (some (.t 87)) (some (.t 89)) none⟩,
  .op 16 ⟨some 91, none, .call n_pianolaref2_Ram_Put [(.t 78), (.t 82), (.t 90)]⟩])
  (.ret)
def c2_pianolaref15_Bus_sector : C :=
 .ops [⟨some 104, none, .mov (.t 2)⟩,
  ⟨some 105, none, .nilc (.t 104)⟩,
  ⟨some 106, none, .fa 4 (.t 105)⟩,
  ⟨some 107, none, .ld (.t 106)⟩,
  ⟨some 108, none, .mov (.t 3)⟩,
  ⟨some 109, none, .sl 1 (.t 107) (some (.t 108)) none none⟩,
  ⟨some 110, none, .mov (.t 4)⟩,
  ⟨some 111, none, .cpy 1 (.t 109) (.t 110)⟩]
def c3_pianolaref15_Bus_sector : C :=
 .seq (.any 0 [.op 0 ⟨some 93, none, .mov (.t 0)⟩,
  .op 1 ⟨some 94, none, .nilc (.t 93)⟩,
  .op 2 ⟨some 95, none, .fa 0 (.t 94)⟩,
  .op 3 ⟨some 96, none, .ld (.t 95)⟩,
  .op 4 ⟨some 97, none, .mov (.t 2)⟩,
  .op 5 ⟨some 98, none, .nilc (.t 97)⟩,
  .op 6 ⟨some 99, none, .fa 1 (.t 98)⟩,
  .op 7 ⟨some 100, none, .ld (.t 99)⟩,
  .op 8 ⟨some 101, none, .call n_pianolaref2_Ram_Bytes [(.t 96), (.t 100), (.c (.int .i64 64))]⟩,
  .op 9 ⟨some 92, none, .mov (.t 101)⟩,
  .op 10 ⟨some 102, none, .ext (.t 92) 0⟩,
  .op 11 ⟨some 103, none, .ext (.t 92) 1⟩,
  .op 12 ⟨some 4, none, .mov (.t 102)⟩,
  .op 13 ⟨some 5, none, .mov (.t 103)⟩])
  (c2_pianolaref15_Bus_sector)
def c4_pianolaref15_Bus_sector : C :=
 .seq (.ops [⟨some 64, none, .mov (.t 2)⟩,
  ⟨some 65, none, .nilc (.t 64)⟩,
  ⟨some 66, none, .fa 0 (.t 65)⟩,
  ⟨some 67, none, .ld (.t 66)⟩,
  ⟨some 68, none, .conv .i64 (.t 67)⟩,
  ⟨some 69, none, .bin .mul (.t 68) (.c (.int .i64 64))⟩,
  ⟨some 3, none, .mov (.t 69)⟩])
  (.seq (.seq (.ops [⟨some 70, none, .mov (.t 2)⟩,
  ⟨some 71, none, .nilc (.t 70)⟩,
  ⟨some 72, none, .fa 2 (.t 71)⟩,
  ⟨some 73, none, .ld (.t 72)⟩,
  ⟨some 74, none, .bin .eql (.t 73) (.c (.int .u32 1))⟩])
  (.cond (.t 74)
  (c1_pianolaref15_Bus_sector)
  (.skip)))
  (c3_pianolaref15_Bus_sector))
def c5_pianolaref15_Bus_sector : C :=
 .seq (.seq (.any 0 [.op 0 ⟨some 18, none, .mov (.t 2)⟩,
  .op 1 ⟨some 19, none, .nilc (.t 18)⟩,
  .op 2 ⟨some 20, none, .fa 0 (.t 19)⟩,
  .op 3 ⟨some 21, none, .ld (.t 20)⟩,
  .op 4 ⟨some 22, none, .mov (.t 2)⟩,
  .op 5 ⟨some 23, none, .nilc (.t 22)⟩,
  .op 6 ⟨some 24, none, .fa 4 (.t 23)⟩,
  .op 7 ⟨some 25, none, .ld (.t 24)⟩,
  .op 8 ⟨some 26, none, .len 1 (.t 25)⟩,
  .op 9 ⟨some 27, none, .bin .quo (.t 26) (.c (.int .i64 64))⟩,
  .op 10 ⟨some 28, none, .conv .u32 (.t 27)⟩,
  .op 11 ⟨some 29, none, .bin .geq (.t 21) (.t 28)⟩,
  .op 12 ⟨some 30, none, .mov (.t 29)⟩,
  .op 13 ⟨some 31, some (30, false), .mov (.t 2)⟩,
  .op 14 ⟨some 32, some (30, false), .nilc (.t 31)⟩,
  .op 15 ⟨some 33, some (30, false), .fa 2 (.t 32)⟩,
  .op 16 ⟨some 34, some (30, false), .ld (.t 33)⟩,
  .op 17 ⟨some 35, some (30, false), .bin .neq (.t 34) (.c (.int .u32 1))⟩,
  .op 18 ⟨some 36, some (30, false), .mov (.t 35)⟩,
  .op 19 ⟨some 37, some (36, true), .mov (.t 2)⟩,
  .op 20 ⟨some 38, some (36, true), .nilc (.t 37)⟩,
  .op 21 ⟨some 39, some (36, true), .fa 2 (.t 38)⟩,
  .op 22 ⟨some 40, some (36, true), .ld (.t 39)⟩,
  .op 23 ⟨some 41, some (36, true), .bin .neq (.t 40) (.c (.int .u32 2))⟩,
  .op 24 ⟨some 42, some (30, false), .pick (.t 36) (.t 41) (.c (.bool false))⟩,
  .op 25 ⟨some 43, none, .pick (.t 30) (.c (.bool true)) (.t 42)⟩,
  .op 26 ⟨some 44, none, .mov (.t 43)⟩,
  .op 27 ⟨some 45, some (44, false), .mov (.t 0)⟩,
  .op 28 ⟨some 46, some (44, false), .nilc (.t 45)⟩,
  .op 29 ⟨some 47, some (44, false), .fa 0 (.t 46)⟩,
  .op 30 ⟨some 48, some (44, false), .ld (.t 47)⟩,
  .op 31 ⟨some 49, some (44, false), .mov (.t 2)⟩,
  .op 32 ⟨some 50, some (44, false), .nilc (.t 49)⟩,
  .op 33 ⟨some 51, some (44, false), .fa 1 (.t 50)⟩,
  .op 34 ⟨some 52, some (44, false), .ld (.t 51)⟩,
  .op 35 ⟨some 53, some (44, false), .call n_pianolaref2_Ram_In [(.t 48), (.t 52), (.c (.int .i64 64))]⟩,
  .op 36 ⟨some 54, some (44, false), .un .not (.t 53)⟩,
  .op 37 ⟨some 55, none, .pick (.t 44) (.c (.bool true)) (.t 54)⟩])
  (.cond (.t 55)
  (c0_pianolaref15_Bus_sector)
  (.skip)))
  (c4_pianolaref15_Bus_sector)
def c6_pianolaref15_Bus_sector : C :=
 .seq (.ops [⟨some 9, none, .mov (.t 2)⟩,
  ⟨some 10, none, .mov (.t 2)⟩,
  ⟨some 11, none, .nilc (.t 10)⟩,
  ⟨some 12, none, .fa 3 (.t 11)⟩,
  ⟨some 13, none, .ld (.t 12)⟩,
  ⟨some 14, none, .bin .andNot (.t 13) (.c (.int .u32 1))⟩,
  ⟨some 15, none, .bin .or (.t 14) (.c (.int .u32 2))⟩,
  ⟨some 16, none, .nilc (.t 9)⟩,
  ⟨some 17, none, .fa 3 (.t 16)⟩,
  ⟨none, none, .st (.t 17) (.t 15)⟩])
  (c5_pianolaref15_Bus_sector)
def c_pianolaref15_Bus_sector : C :=
 .seq (.ops [⟨some 6, none, .mov (.t 0)⟩,
  ⟨some 7, none, .nilc (.t 6)⟩,
  ⟨some 8, none, .fa 18 (.t 7)⟩,
  ⟨some 2, none, .mov (.t 8)⟩])
  (c6_pianolaref15_Bus_sector)
def f_pianolaref15_Bus_sector : F := ⟨c_pianolaref15_Bus_sector, [], some []⟩
theorem h_pianolaref15_Bus_sector : compF Tryz.prog (compAny Tryz.prog) n_pianolaref15_Bus_sector = some (f_pianolaref15_Bus_sector.body, f_pianolaref15_Bus_sector.res) := by kernel_rfl
def c0_slices_Clone_byte_byte : C :=
 .seq (.seq (.ops [⟨some 3, none, .mov (.t 0)⟩,
  ⟨some 4, none, .eqn 1 false (.t 3)⟩])
  (.cond (.t 4)
  (.seq (.ops [⟨some 2, none, .mov (.c (.slice none 0 0))⟩])
  (.ret))
  (.skip)))
  (.seq (.ops [⟨some 5, none, .bsl 0 [] []⟩,
  ⟨some 6, none, .mov (.t 0)⟩,
  ⟨some 7, none, .app 1 1 (.t 5) (.t 6)⟩,
  ⟨some 2, none, .mov (.t 7)⟩])
  (.ret))
def c_slices_Clone_byte_byte : C :=
 .seq (.ops [⟨some 2, none, .mov (.c (.slice none 0 0))⟩])
  (c0_slices_Clone_byte_byte)
def f_slices_Clone_byte_byte : F := ⟨c_slices_Clone_byte_byte, [.t 2], some []⟩
theorem h_slices_Clone_byte_byte : compF Tryz.prog (compAny Tryz.prog) n_slices_Clone_byte_byte = some (f_slices_Clone_byte_byte.body, f_slices_Clone_byte_byte.res) := by kernel_rfl
def c_uart_bit : C :=
 .seq (.ops [⟨some 4, none, .mov (.c (.int .u32 0))⟩])
  (.seq (.seq (.ops [⟨some 5, none, .mov (.t 0)⟩])
  (.cond (.t 5)
  (.seq (.ops [⟨some 6, none, .mov (.t 1)⟩,
  ⟨some 4, none, .mov (.t 6)⟩])
  (.ret))
  (.skip)))
  (.seq (.ops [⟨some 4, none, .mov (.c (.int .u32 0))⟩])
  (.ret)))
def f_uart_bit : F := ⟨c_uart_bit, [.t 4], some []⟩
theorem h_uart_bit : compF Tryz.prog (compAny Tryz.prog) n_uart_bit = some (f_uart_bit.body, f_uart_bit.res) := by kernel_rfl
def c_timer_Timer_Line : C :=
 .seq (.ops [⟨some 2, none, .mov (.c (.bool false))⟩])
  (.seq (.ops [⟨some 3, none, .mov (.t 0)⟩,
  ⟨some 4, none, .nilc (.t 3)⟩,
  ⟨some 5, none, .fa 4 (.t 4)⟩,
  ⟨some 6, none, .ld (.t 5)⟩,
  ⟨some 7, none, .bin .neq (.t 6) (.c (.int .u32 0))⟩,
  ⟨some 2, none, .mov (.t 7)⟩])
  (.ret))
def f_timer_Timer_Line : F := ⟨c_timer_Timer_Line, [.t 2], some []⟩
theorem h_timer_Timer_Line : compF Tryz.prog (compAny Tryz.prog) n_timer_Timer_Line = some (f_timer_Timer_Line.body, f_timer_Timer_Line.res) := by kernel_rfl
def c0_uart_Uart_Line : C :=
 .seq (.ops [⟨some 3, none, .mov (.t 0)⟩,
  ⟨some 4, none, .nilc (.t 3)⟩,
  ⟨some 5, none, .fa 5 (.t 4)⟩,
  ⟨some 6, none, .ld (.t 5)⟩,
  ⟨some 7, none, .bin .and (.t 6) (.c (.int .u32 1))⟩,
  ⟨some 8, none, .bin .neq (.t 7) (.c (.int .u32 0))⟩,
  ⟨some 9, none, .mov (.t 8)⟩,
  ⟨some 10, some (9, true), .mov (.t 0)⟩,
  ⟨some 11, some (9, true), .nilc (.t 10)⟩,
  ⟨some 12, some (9, true), .fa 2 (.t 11)⟩,
  ⟨some 13, some (9, true), .ld (.t 12)⟩,
  ⟨some 14, some (9, true), .len 3 (.t 13)⟩,
  ⟨some 15, some (9, true), .bin .gtr (.t 14) (.c (.int .i64 0))⟩,
  ⟨some 16, none, .pick (.t 9) (.t 15) (.c (.bool false))⟩,
  ⟨some 17, none, .mov (.t 16)⟩,
  ⟨some 18, some (17, false), .mov (.t 0)⟩,
  ⟨some 19, some (17, false), .nilc (.t 18)⟩,
  ⟨some 20, some (17, false), .fa 5 (.t 19)⟩,
  ⟨some 21, some (17, false), .ld (.t 20)⟩,
  ⟨some 22, some (17, false), .bin .and (.t 21) (.c (.int .u32 2))⟩,
  ⟨some 23, some (17, false), .bin .neq (.t 22) (.c (.int .u32 0))⟩,
  ⟨some 24, some (17, false), .mov (.t 23)⟩,
  ⟨some 25, some (24, true), .mov (.t 0)⟩,
  ⟨some 26, some (24, true), .nilc (.t 25)⟩,
  ⟨some 27, some (24, true), .fa 3 (.t 26)⟩,
  ⟨some 28, some (24, true), .ld (.t 27)⟩,
  ⟨some 29, some (24, true), .len 3 (.t 28)⟩,
  ⟨some 30, some (24, true), .bin .eql (.t 29) (.c (.int .i64 0))⟩,
  ⟨some 31, some (17, false), .pick (.t 24) (.t 30) (.c (.bool false))⟩,
  ⟨some 32, none, .pick (.t 17) (.c (.bool true)) (.t 31)⟩,
  ⟨some 2, none, .mov (.t 32)⟩])
  (.ret)
def c_uart_Uart_Line : C :=
 .seq (.ops [⟨some 2, none, .mov (.c (.bool false))⟩])
  (c0_uart_Uart_Line)
def f_uart_Uart_Line : F := ⟨c_uart_Uart_Line, [.t 2], some []⟩
theorem h_uart_Uart_Line : compF Tryz.prog (compAny Tryz.prog) n_uart_Uart_Line = some (f_uart_Uart_Line.body, f_uart_Uart_Line.res) := by kernel_rfl
def c_dma_Dma_Line : C :=
 .seq (.ops [⟨some 2, none, .mov (.c (.bool false))⟩])
  (.seq (.ops [⟨some 3, none, .mov (.t 0)⟩,
  ⟨some 4, none, .nilc (.t 3)⟩,
  ⟨some 5, none, .fa 6 (.t 4)⟩,
  ⟨some 6, none, .ld (.t 5)⟩,
  ⟨some 7, none, .bin .and (.t 6) (.c (.int .u32 6))⟩,
  ⟨some 8, none, .bin .neq (.t 7) (.c (.int .u32 0))⟩,
  ⟨some 2, none, .mov (.t 8)⟩])
  (.ret))
def f_dma_Dma_Line : F := ⟨c_dma_Dma_Line, [.t 2], some []⟩
theorem h_dma_Dma_Line : compF Tryz.prog (compAny Tryz.prog) n_dma_Dma_Line = some (f_dma_Dma_Line.body, f_dma_Dma_Line.res) := by kernel_rfl
def c_disk_Disk_Line : C :=
 .seq (.ops [⟨some 2, none, .mov (.c (.bool false))⟩])
  (.seq (.ops [⟨some 3, none, .mov (.t 0)⟩,
  ⟨some 4, none, .nilc (.t 3)⟩,
  ⟨some 5, none, .fa 7 (.t 4)⟩,
  ⟨some 6, none, .ld (.t 5)⟩,
  ⟨some 7, none, .bin .and (.t 6) (.c (.int .u32 6))⟩,
  ⟨some 8, none, .bin .neq (.t 7) (.c (.int .u32 0))⟩,
  ⟨some 2, none, .mov (.t 8)⟩])
  (.ret))
def f_disk_Disk_Line : F := ⟨c_disk_Disk_Line, [.t 2], some []⟩
theorem h_disk_Disk_Line : compF Tryz.prog (compAny Tryz.prog) n_disk_Disk_Line = some (f_disk_Disk_Line.body, f_disk_Disk_Line.res) := by kernel_rfl
def c_timer_Timer_arm : C :=
 .any 0 [.op 0 ⟨some 4, none, .mov (.t 0)⟩,
  .op 1 ⟨some 5, none, .nilc (.t 4)⟩,
  .op 2 ⟨some 6, none, .fa 1 (.t 5)⟩,
  .op 3 ⟨some 7, none, .ld (.t 6)⟩,
  .op 4 ⟨some 8, none, .mov (.t 0)⟩,
  .op 5 ⟨some 9, none, .nilc (.t 8)⟩,
  .op 6 ⟨some 10, none, .fa 0 (.t 9)⟩,
  .op 7 ⟨some 11, none, .ld (.t 10)⟩,
  .op 9 ⟨some 13, none, .mov (.t 0)⟩,
  .op 10 ⟨some 14, none, .nilc (.t 13)⟩,
  .op 11 ⟨some 15, none, .fa 3 (.t 14)⟩,
  .op 12 ⟨some 16, none, .ld (.t 15)⟩,
  .op 8 ⟨some 12, none, .mov (.t 1)⟩,
  .op 13 ⟨some 17, none, .mx (.c (.int .u32 1)) (.t 16)⟩,
  .op 14 ⟨some 18, none, .conv .i64 (.t 17)⟩,
  .op 15 ⟨some 19, none, .bin .add (.t 12) (.t 18)⟩,
  .op 16 ⟨some 20, none, .call n_wheel_Wheel_Arm [(.t 7), (.t 11), (.t 19)]⟩]
def f_timer_Timer_arm : F := ⟨c_timer_Timer_arm, [], some []⟩
theorem h_timer_Timer_arm : compF Tryz.prog (compAny Tryz.prog) n_timer_Timer_arm = some (f_timer_Timer_arm.body, f_timer_Timer_arm.res) := by kernel_rfl
def c0_wheel_Wheel_Cancel : C :=
 .seq (.ops [⟨some 11, none, .mov (.t 0)⟩,
  ⟨some 12, none, .mov (.t 0)⟩,
  ⟨some 13, none, .nilc (.t 12)⟩,
  ⟨some 14, none, .fa 0 (.t 13)⟩,
  ⟨some 15, none, .ld (.t 14)⟩,
  ⟨some 16, none, .mov (.t 5)⟩,
  ⟨some 17, none, .mov (.t 5)⟩,
  ⟨some 18, none, .bin .add (.t 17) (.c (.int .i64 1))⟩,
  ⟨some 19, none, .call n_slices_Delete_api_Event_api_Event [(.t 15), (.t 16), (.t 18)]⟩,
  ⟨some 20, none, .nilc (.t 11)⟩,
  ⟨some 21, none, .fa 0 (.t 20)⟩,
  ⟨none, none, .st (.t 21) (.t 19)⟩])
  (.seq (.ops [⟨some 4, none, .mov (.c (.bool true))⟩])
  (.ret))
def c1_wheel_Wheel_Cancel : C :=
 .seq (.ops [⟨some 6, none, .mov (.t 0)⟩,
  ⟨some 7, none, .mov (.t 1)⟩,
  ⟨some 8, none, .call n_wheel_Wheel_find [(.t 6), (.t 7)]⟩,
  ⟨some 5, none, .mov (.t 8)⟩])
  (.seq (.seq (.ops [⟨some 9, none, .mov (.t 5)⟩,
  ⟨some 10, none, .bin .lss (.t 9) (.c (.int .i64 0))⟩])
  (.cond (.t 10)
  (.seq (.ops [⟨some 4, none, .mov (.c (.bool false))⟩])
  (.ret))
  (.skip)))
  (c0_wheel_Wheel_Cancel))
def c_wheel_Wheel_Cancel : C :=
 .seq (.ops [⟨some 4, none, .mov (.c (.bool false))⟩])
  (c1_wheel_Wheel_Cancel)
def f_wheel_Wheel_Cancel : F := ⟨c_wheel_Wheel_Cancel, [.t 4], some []⟩
theorem h_wheel_Wheel_Cancel : compF Tryz.prog (compAny Tryz.prog) n_wheel_Wheel_Cancel = some (f_wheel_Wheel_Cancel.body, f_wheel_Wheel_Cancel.res) := by kernel_rfl
def c_uart_Uart_arm : C :=
 .any 0 [.op 0 ⟨some 4, none, .mov (.t 0)⟩,
  .op 1 ⟨some 5, none, .nilc (.t 4)⟩,
  .op 2 ⟨some 6, none, .fa 1 (.t 5)⟩,
  .op 3 ⟨some 7, none, .ld (.t 6)⟩,
  .op 4 ⟨some 8, none, .mov (.t 0)⟩,
  .op 5 ⟨some 9, none, .nilc (.t 8)⟩,
  .op 6 ⟨some 10, none, .fa 0 (.t 9)⟩,
  .op 7 ⟨some 11, none, .ld (.t 10)⟩,
  .op 8 ⟨some 12, none, .mov (.t 1)⟩,
  .op 9 ⟨some 13, none, .bin .add (.t 12) (.c (.int .i64 8))⟩,
  .op 10 ⟨some 14, none, .call n_wheel_Wheel_Arm [(.t 7), (.t 11), (.t 13)]⟩]
def f_uart_Uart_arm : F := ⟨c_uart_Uart_arm, [], some []⟩
theorem h_uart_Uart_arm : compF Tryz.prog (compAny Tryz.prog) n_uart_Uart_arm = some (f_uart_Uart_arm.body, f_uart_Uart_arm.res) := by kernel_rfl
def c0_dma_Dma_begin : C :=
 .any 0 [.op 0 ⟨some 17, none, .mov (.t 0)⟩,
  .op 1 ⟨some 18, none, .nilc (.t 17)⟩,
  .op 2 ⟨some 19, none, .fa 1 (.t 18)⟩,
  .op 3 ⟨some 20, none, .ld (.t 19)⟩,
  .op 4 ⟨some 21, none, .mov (.t 0)⟩,
  .op 5 ⟨some 22, none, .nilc (.t 21)⟩,
  .op 6 ⟨some 23, none, .fa 0 (.t 22)⟩,
  .op 7 ⟨some 24, none, .ld (.t 23)⟩,
  .op 9 ⟨some 26, none, .mov (.t 0)⟩,
  .op 10 ⟨some 27, none, .nilc (.t 26)⟩,
  .op 11 ⟨some 28, none, .fa 5 (.t 27)⟩,
  .op 12 ⟨some 29, none, .ld (.t 28)⟩,
  .op 8 ⟨some 25, none, .mov (.t 1)⟩,
  .op 13 ⟨some 30, none, .mn (.t 29) (.c (.int .u32 4096))⟩,
  .op 14 ⟨some 31, none, .bin .quo (.t 30) (.c (.int .u32 4))⟩,
  .op 15 ⟨some 32, none, .conv .i64 (.t 31)⟩,
  .op 16 ⟨some 33, none, .bin .add (.t 25) (.t 32)⟩,
  .op 17 ⟨some 34, none, .bin .add (.t 33) (.c (.int .i64 1))⟩,
  .op 18 ⟨some 35, none, .call n_wheel_Wheel_Arm [(.t 20), (.t 24), (.t 34)]⟩]
def c1_dma_Dma_begin : C :=
 .seq (.ops [⟨some 10, none, .mov (.t 0)⟩,
  ⟨some 11, none, .nilc (.t 10)⟩,
  ⟨some 12, none, .fa 6 (.t 11)⟩,
  ⟨some 13, none, .ld (.t 12)⟩,
  ⟨some 14, none, .bin .or (.t 13) (.c (.int .u32 1))⟩,
  ⟨some 15, none, .nilc (.t 10)⟩,
  ⟨some 16, none, .fa 6 (.t 15)⟩,
  ⟨none, none, .st (.t 16) (.t 14)⟩])
  (c0_dma_Dma_begin)
def c_dma_Dma_begin : C :=
 .seq (.seq (.ops [⟨some 4, none, .mov (.t 0)⟩,
  ⟨some 5, none, .nilc (.t 4)⟩,
  ⟨some 6, none, .fa 6 (.t 5)⟩,
  ⟨some 7, none, .ld (.t 6)⟩,
  ⟨some 8, none, .bin .and (.t 7) (.c (.int .u32 1))⟩,
  ⟨some 9, none, .bin .neq (.t 8) (.c (.int .u32 0))⟩])
  (.cond (.t 9)
  (.ret)
  (.skip)))
  (c1_dma_Dma_begin)
def f_dma_Dma_begin : F := ⟨c_dma_Dma_begin, [], some []⟩
theorem h_dma_Dma_begin : compF Tryz.prog (compAny Tryz.prog) n_dma_Dma_begin = some (f_dma_Dma_begin.body, f_dma_Dma_begin.res) := by kernel_rfl
def c0_disk_Disk_begin : C :=
 .any 0 [.op 0 ⟨some 23, none, .mov (.t 0)⟩,
  .op 1 ⟨some 24, none, .nilc (.t 23)⟩,
  .op 2 ⟨some 25, none, .fa 1 (.t 24)⟩,
  .op 3 ⟨some 26, none, .ld (.t 25)⟩,
  .op 4 ⟨some 27, none, .mov (.t 0)⟩,
  .op 5 ⟨some 28, none, .nilc (.t 27)⟩,
  .op 6 ⟨some 29, none, .fa 0 (.t 28)⟩,
  .op 7 ⟨some 30, none, .ld (.t 29)⟩,
  .op 8 ⟨some 31, none, .mov (.t 2)⟩,
  .op 9 ⟨some 32, none, .bin .add (.t 31) (.c (.int .i64 32))⟩,
  .op 10 ⟨some 33, none, .call n_wheel_Wheel_Arm [(.t 26), (.t 30), (.t 32)]⟩]
def c1_disk_Disk_begin : C :=
 .seq (.ops [⟨some 16, none, .mov (.t 0)⟩,
  ⟨some 17, none, .nilc (.t 16)⟩,
  ⟨some 18, none, .fa 7 (.t 17)⟩,
  ⟨some 19, none, .ld (.t 18)⟩,
  ⟨some 20, none, .bin .or (.t 19) (.c (.int .u32 1))⟩,
  ⟨some 21, none, .nilc (.t 16)⟩,
  ⟨some 22, none, .fa 7 (.t 21)⟩,
  ⟨none, none, .st (.t 22) (.t 20)⟩])
  (c0_disk_Disk_begin)
def c_disk_Disk_begin : C :=
 .seq (.seq (.ops [⟨some 6, none, .mov (.t 0)⟩,
  ⟨some 7, none, .nilc (.t 6)⟩,
  ⟨some 8, none, .fa 7 (.t 7)⟩,
  ⟨some 9, none, .ld (.t 8)⟩,
  ⟨some 10, none, .bin .and (.t 9) (.c (.int .u32 1))⟩,
  ⟨some 11, none, .bin .neq (.t 10) (.c (.int .u32 0))⟩])
  (.cond (.t 11)
  (.ret)
  (.skip)))
  (.seq (.ops [⟨some 12, none, .mov (.t 0)⟩,
  ⟨some 13, none, .mov (.t 1)⟩,
  ⟨some 14, none, .nilc (.t 12)⟩,
  ⟨some 15, none, .fa 6 (.t 14)⟩,
  ⟨none, none, .st (.t 15) (.t 13)⟩])
  (c1_disk_Disk_begin))
def f_disk_Disk_begin : F := ⟨c_disk_Disk_begin, [], some []⟩
theorem h_disk_Disk_begin : compF Tryz.prog (compAny Tryz.prog) n_disk_Disk_begin = some (f_disk_Disk_begin.body, f_disk_Disk_begin.res) := by kernel_rfl
def c0_pianolaref9_Wheel_Cancel : C :=
 .seq (.any 1 [.op 2 ⟨some 27, none, .mov (.t 0)⟩,
  .op 3 ⟨some 28, none, .nilc (.t 27)⟩,
  .op 4 ⟨some 29, none, .fa 0 (.t 28)⟩,
  .op 5 ⟨some 30, none, .ld (.t 29)⟩,
  .op 9 ⟨some 34, none, .mov (.t 0)⟩,
  .op 10 ⟨some 35, none, .nilc (.t 34)⟩,
  .op 11 ⟨some 36, none, .fa 0 (.t 35)⟩,
  .op 12 ⟨some 37, none, .ld (.t 36)⟩,
  .al 1 0 ⟨some 26, none, .bsl 0 [] []⟩,
  .op 6 ⟨some 31, none, .mov (.t 5)⟩,
  .op 7 ⟨some 32, none, .sl 3 (.t 30) none (some (.t 31)) none⟩,
  .op 8 ⟨some 33, none, .app 3 24 (.t 26) (.t 32)⟩,
  .re 12 ⟨some 37, none, .ld (.t 36)⟩,
  .op 13 ⟨some 38, none, .mov (.t 5)⟩,
  .op 14 ⟨some 39, none, .bin .add (.t 38) (.c (.int .i64 1))⟩,
  .op 15 ⟨some 40, none, .sl 3 (.t 37) (some (.t 39)) none none⟩,
  .op 16 ⟨some 41, none, .app 3 24 (.t 33) (.t 40)⟩,
  .op 0 ⟨some 25, none, .mov (.t 0)⟩,
  .op 17 ⟨some 42, none, .nilc (.t 25)⟩,
  .op 18 ⟨some 43, none, .fa 0 (.t 42)⟩,
  .op 19 ⟨none, none, .st (.t 43) (.t 41)⟩])
  (.seq (.ops [⟨some 4, none, .mov (.c (.bool true))⟩])
  (.ret))
def c1_pianolaref9_Wheel_Cancel : C :=
 .seq (.block 1
  (.seq (.ops [⟨some 15, none, .mov (.t 0)⟩,
  ⟨some 16, none, .nilc (.t 15)⟩,
  ⟨some 17, none, .fa 0 (.t 16)⟩,
  ⟨some 18, none, .ld (.t 17)⟩,
  ⟨some 19, none, .mov (.t 5)⟩,
  ⟨some 20, none, .ia 3 (.t 18) (.t 19)⟩,
  ⟨some 21, none, .fa 1 (.t 20)⟩,
  ⟨some 22, none, .ld (.t 21)⟩,
  ⟨some 23, none, .mov (.t 1)⟩,
  ⟨some 24, none, .bin .eql (.t 22) (.t 23)⟩])
  (.cond (.t 24)
  (c0_pianolaref9_Wheel_Cancel)
  (.skip))))
  (.ops [⟨some 13, none, .mov (.t 5)⟩,
  ⟨some 14, none, .bin .add (.t 13) (.c (.int .i64 1))⟩,
  ⟨some 5, none, .mov (.t 14)⟩])
def c2_pianolaref9_Wheel_Cancel : C :=
 .seq (.seq (.ops [⟨some 6, none, .mov (.t 5)⟩,
  ⟨some 7, none, .mov (.t 0)⟩,
  ⟨some 8, none, .nilc (.t 7)⟩,
  ⟨some 9, none, .fa 0 (.t 8)⟩,
  ⟨some 10, none, .ld (.t 9)⟩,
  ⟨some 11, none, .len 1 (.t 10)⟩,
  ⟨some 12, none, .bin .lss (.t 6) (.t 11)⟩])
  (.cond (.t 12)
  (.skip)
  (.exit 0)))
  (c1_pianolaref9_Wheel_Cancel)
def c_pianolaref9_Wheel_Cancel : C :=
 .seq (.ops [⟨some 4, none, .mov (.c (.bool false))⟩])
  (.seq (.seq (.ops [⟨some 5, none, .mov (.c (.int .i64 0))⟩])
  (.block 0
  (.loop c2_pianolaref9_Wheel_Cancel)))
  (.seq (.ops [⟨some 4, none, .mov (.c (.bool false))⟩])
  (.ret)))
def f_pianolaref9_Wheel_Cancel : F := ⟨c_pianolaref9_Wheel_Cancel, [.t 4], some []⟩
theorem h_pianolaref9_Wheel_Cancel : compF Tryz.prog (compAny Tryz.prog) n_pianolaref9_Wheel_Cancel = some (f_pianolaref9_Wheel_Cancel.body, f_pianolaref9_Wheel_Cancel.res) := by kernel_rfl
def c0_slices_Clone_api_Event_api_Event : C :=
 .seq (.seq (.ops [⟨some 3, none, .mov (.t 0)⟩,
  ⟨some 4, none, .eqn 1 false (.t 3)⟩])
  (.cond (.t 4)
  (.seq (.ops [⟨some 2, none, .mov (.c (.slice none 0 0))⟩])
  (.ret))
  (.skip)))
  (.seq (.ops [⟨some 5, none, .bsl 0 [] []⟩,
  ⟨some 6, none, .mov (.t 0)⟩,
  ⟨some 7, none, .app 3 24 (.t 5) (.t 6)⟩,
  ⟨some 2, none, .mov (.t 7)⟩])
  (.ret))
def c_slices_Clone_api_Event_api_Event : C :=
 .seq (.ops [⟨some 2, none, .mov (.c (.slice none 0 0))⟩])
  (c0_slices_Clone_api_Event_api_Event)
def f_slices_Clone_api_Event_api_Event : F := ⟨c_slices_Clone_api_Event_api_Event, [.t 2], some []⟩
theorem h_slices_Clone_api_Event_api_Event : compF Tryz.prog (compAny Tryz.prog) n_slices_Clone_api_Event_api_Event = some (f_slices_Clone_api_Event_api_Event.body, f_slices_Clone_api_Event_api_Event.res) := by kernel_rfl
def c0_dma_Dma_move : C :=
 .seq (.any 0 [.op 0 ⟨some 27, none, .mov (.t 4)⟩,
  .op 1 ⟨some 28, none, .mov (.t 27)⟩,
  .op 2 ⟨some 29, some (28, true), .mov (.t 0)⟩,
  .op 3 ⟨some 30, some (28, true), .nilc (.t 29)⟩,
  .op 4 ⟨some 31, some (28, true), .fa 2 (.t 30)⟩,
  .op 5 ⟨some 32, some (28, true), .ld (.t 31)⟩,
  .op 6 ⟨some 33, some (28, true), .mov (.t 0)⟩,
  .op 7 ⟨some 34, some (28, true), .nilc (.t 33)⟩,
  .op 8 ⟨some 35, some (28, true), .fa 4 (.t 34)⟩,
  .op 9 ⟨some 36, some (28, true), .ld (.t 35)⟩,
  .op 10 ⟨some 37, some (28, true), .mov (.t 3)⟩,
  .op 11 ⟨some 38, some (28, true), .call n_ram_Ram_Put [(.t 32), (.t 36), (.t 37)]⟩,
  .op 12 ⟨some 39, none, .pick (.t 28) (.t 38) (.c (.bool false))⟩,
  .op 13 ⟨some 2, none, .mov (.t 39)⟩])
  (.ret)
def c1_dma_Dma_move : C :=
 .seq (.any 0 [.op 0 ⟨some 11, none, .mov (.t 0)⟩,
  .op 1 ⟨some 12, none, .nilc (.t 11)⟩,
  .op 2 ⟨some 13, none, .fa 2 (.t 12)⟩,
  .op 3 ⟨some 14, none, .ld (.t 13)⟩,
  .op 4 ⟨some 15, none, .mov (.t 0)⟩,
  .op 5 ⟨some 16, none, .nilc (.t 15)⟩,
  .op 6 ⟨some 17, none, .fa 3 (.t 16)⟩,
  .op 7 ⟨some 18, none, .ld (.t 17)⟩,
  .op 8 ⟨some 19, none, .mov (.t 0)⟩,
  .op 9 ⟨some 20, none, .nilc (.t 19)⟩,
  .op 10 ⟨some 21, none, .fa 5 (.t 20)⟩,
  .op 11 ⟨some 22, none, .ld (.t 21)⟩,
  .op 12 ⟨some 23, none, .conv .i64 (.t 22)⟩,
  .op 13 ⟨some 24, none, .call n_ram_Ram_Bytes [(.t 14), (.t 18), (.t 23)]⟩,
  .op 14 ⟨some 10, none, .mov (.t 24)⟩,
  .op 15 ⟨some 25, none, .ext (.t 10) 0⟩,
  .op 16 ⟨some 26, none, .ext (.t 10) 1⟩,
  .op 17 ⟨some 3, none, .mov (.t 25)⟩,
  .op 18 ⟨some 4, none, .mov (.t 26)⟩])
  (c0_dma_Dma_move)
def c_dma_Dma_move : C :=
 .seq (.ops [⟨some 2, none, .mov (.c (.bool false))⟩])
  (.seq (.seq (.ops [⟨some 5, none, .mov (.t 0)⟩,
  ⟨some 6, none, .nilc (.t 5)⟩,
  ⟨some 7, none, .fa 5 (.t 6)⟩,
  ⟨some 8, none, .ld (.t 7)⟩,
  ⟨some 9, none, .bin .gtr (.t 8) (.c (.int .u32 4096))⟩])
  (.cond (.t 9)
  (.seq (.ops [⟨some 2, none, .mov (.c (.bool false))⟩])
  (.ret))
  (.skip)))
  (c1_dma_Dma_move))
def f_dma_Dma_move : F := ⟨c_dma_Dma_move, [.t 2], some []⟩
theorem h_dma_Dma_move : compF Tryz.prog (compAny Tryz.prog) n_dma_Dma_move = some (f_dma_Dma_move.body, f_dma_Dma_move.res) := by kernel_rfl
def c0_disk_Disk_do : C :=
 .seq (.any 0 [.op 0 ⟨some 32, none, .mov (.t 0)⟩,
  .op 1 ⟨some 33, none, .nilc (.t 32)⟩,
  .op 2 ⟨some 34, none, .fa 2 (.t 33)⟩,
  .op 3 ⟨some 35, none, .ld (.t 34)⟩,
  .op 4 ⟨some 36, none, .mov (.t 0)⟩,
  .op 5 ⟨some 37, none, .nilc (.t 36)⟩,
  .op 6 ⟨some 38, none, .fa 5 (.t 37)⟩,
  .op 7 ⟨some 39, none, .ld (.t 38)⟩,
  .op 8 ⟨some 40, none, .mov (.t 3)⟩,
  .op 9 ⟨some 41, none, .call n_ram_Ram_Put [(.t 35), (.t 39), (.t 40)]⟩,
  .op 10 ⟨some 2, none, .mov (.t 41)⟩])
  (.ret)
def c1_disk_Disk_do : C :=
 .seq (.any 0 [.op 0 ⟨some 45, none, .mov (.t 0)⟩,
  .op 1 ⟨some 46, none, .nilc (.t 45)⟩,
  .op 2 ⟨some 47, none, .fa 2 (.t 46)⟩,
  .op 3 ⟨some 48, none, .ld (.t 47)⟩,
  .op 4 ⟨some 49, none, .mov (.t 0)⟩,
  .op 5 ⟨some 50, none, .nilc (.t 49)⟩,
  .op 6 ⟨some 51, none, .fa 5 (.t 50)⟩,
  .op 7 ⟨some 52, none, .ld (.t 51)⟩,
  .op 8 ⟨some 53, none, .call n_ram_Ram_Bytes [(.t 48), (.t 52), (.c (.int .i64 64))]⟩,
  .op 9 ⟨some 44, none, .mov (.t 53)⟩,
  .op 10 ⟨some 54, none, .ext (.t 44) 0⟩,
  .op 11 ⟨some 55, none, .ext (.t 44) 1⟩,
  .op 12 ⟨some 4, none, .mov (.t 54)⟩,
  .op 13 ⟨some 5, none, .mov (.t 55)⟩])
  (.seq (.ops [⟨some 56, none, .mov (.t 3)⟩,
  ⟨some 57, none, .mov (.t 4)⟩,
  ⟨some 58, none, .cpy 1 (.t 56) (.t 57)⟩])
  (.seq (.ops [⟨some 59, none, .mov (.t 5)⟩,
  ⟨some 2, none, .mov (.t 59)⟩])
  (.ret)))
def c2_disk_Disk_do : C :=
 .seq (.seq (.ops [⟨some 26, none, .mov (.t 0)⟩,
  ⟨some 27, none, .nilc (.t 26)⟩,
  ⟨some 28, none, .fa 6 (.t 27)⟩,
  ⟨some 29, none, .ld (.t 28)⟩])
  (.block 0
  (.seq (.ops [⟨some 31, none, .bin .eql (.t 29) (.c (.int .u32 1))⟩,
  ⟨some 30, none, .mov (.t 31)⟩])
  (.cond (.t 30)
  (c0_disk_Disk_do)
  (.seq (.ops [⟨some 43, none, .bin .eql (.t 29) (.c (.int .u32 2))⟩,
  ⟨some 42, none, .mov (.t 43)⟩])
  (.cond (.t 42)
  (c1_disk_Disk_do)
  (.skip)))))))
  (.seq (.ops [⟨some 2, none, .mov (.c (.bool false))⟩])
  (.ret))
def c3_disk_Disk_do : C :=
 .seq (.any 0 [.op 0 ⟨some 14, none, .mov (.t 0)⟩,
  .op 1 ⟨some 15, none, .nilc (.t 14)⟩,
  .op 2 ⟨some 16, none, .fa 3 (.t 15)⟩,
  .op 3 ⟨some 17, none, .ld (.t 16)⟩,
  .op 4 ⟨some 18, none, .mov (.t 0)⟩,
  .op 5 ⟨some 19, none, .nilc (.t 18)⟩,
  .op 6 ⟨some 20, none, .fa 4 (.t 19)⟩,
  .op 7 ⟨some 21, none, .ld (.t 20)⟩,
  .op 8 ⟨some 22, none, .conv .i64 (.t 21)⟩,
  .op 9 ⟨some 23, none, .bin .mul (.t 22) (.c (.int .i64 64))⟩,
  .op 10 ⟨some 24, none, .sl 1 (.t 17) (some (.t 23)) none none⟩,
  .op 11 ⟨some 25, none, .sl 1 (.t 24) none (some (.c (.int .i64 64))) none⟩,
  .op 12 ⟨some 3, none, .mov (.t 25)⟩])
  (c2_disk_Disk_do)
def c4_disk_Disk_do : C :=
 .seq (.seq (.any 0 [.op 0 ⟨some 6, none, .mov (.t 0)⟩,
  .op 1 ⟨some 7, none, .nilc (.t 6)⟩,
  .op 2 ⟨some 8, none, .fa 4 (.t 7)⟩,
  .op 3 ⟨some 9, none, .ld (.t 8)⟩,
  .op 4 ⟨some 10, none, .mov (.t 0)⟩,
  .op 5 ⟨some 11, none, .call n_disk_Disk_Sectors [(.t 10)]⟩,
  .re 3 ⟨some 9, none, .ld (.t 8)⟩,
  .op 6 ⟨some 12, none, .conv .u32 (.t 11)⟩,
  .op 7 ⟨some 13, none, .bin .geq (.t 9) (.t 12)⟩])
  (.cond (.t 13)
  (.seq (.ops [⟨some 2, none, .mov (.c (.bool false))⟩])
  (.ret))
  (.skip)))
  (c3_disk_Disk_do)
def c_disk_Disk_do : C :=
 .seq (.ops [⟨some 2, none, .mov (.c (.bool false))⟩])
  (c4_disk_Disk_do)
def f_disk_Disk_do : F := ⟨c_disk_Disk_do, [.t 2], some []⟩
theorem h_disk_Disk_do : compF Tryz.prog (compAny Tryz.prog) n_disk_Disk_do = some (f_disk_Disk_do.body, f_disk_Disk_do.res) := by kernel_rfl
def c0_pianolaref2_Ram_Bytes : C :=
 .seq (.ops [⟨some 13, none, .bsl 0 [] []⟩,
  ⟨some 14, none, .mov (.t 0)⟩,
  ⟨some 15, none, .nilc (.t 14)⟩,
  ⟨some 16, none, .fa 0 (.t 15)⟩,
  ⟨some 17, none, .ld (.t 16)⟩,
  ⟨some 18, none, .mov (.t 1)⟩,
  ⟨some 19, none, .mov (.t 1)⟩,
  ⟨some 20, none, .conv .i64 (.t 19)⟩,
  ⟨some 21, none, .mov (.t 2)⟩,
  ⟨some 22, none, .bin .add (.t 20) (.t 21)⟩,
  ⟨some 23, none, .sl 1 (.t 17) (some (.t 18)) (some (.t 22)) none⟩,
  ⟨some 24, none, .app 1 1 (.t 13) (.t 23)⟩,
  ⟨some 6, none, .mov (.t 24)⟩,
  ⟨some 7, none, .mov (.c (.bool true))⟩])
  (.ret)
def c1_pianolaref2_Ram_Bytes : C :=
 .seq (.seq (.ops [⟨some 8, none, .mov (.t 0)⟩,
  ⟨some 9, none, .mov (.t 1)⟩,
  ⟨some 10, none, .mov (.t 2)⟩,
  ⟨some 11, none, .call n_pianolaref2_Ram_In [(.t 8), (.t 9), (.t 10)]⟩,
  ⟨some 12, none, .un .not (.t 11)⟩])
  (.cond (.t 12)
  (.seq (.ops [⟨some 6, none, .mov (.c (.slice none 0 0))⟩,
  ⟨some 7, none, .mov (.c (.bool false))⟩])
  (.ret))
  (.skip)))
  (c0_pianolaref2_Ram_Bytes)
def c_pianolaref2_Ram_Bytes : C :=
 .seq (.ops [⟨some 6, none, .mov (.c (.slice none 0 0))⟩,
  ⟨some 7, none, .mov (.c (.bool false))⟩])
  (c1_pianolaref2_Ram_Bytes)
def f_pianolaref2_Ram_Bytes : F := ⟨c_pianolaref2_Ram_Bytes, [.t 6, .t 7], some []⟩
theorem h_pianolaref2_Ram_Bytes : compF Tryz.prog (compAny Tryz.prog) n_pianolaref2_Ram_Bytes = some (f_pianolaref2_Ram_Bytes.body, f_pianolaref2_Ram_Bytes.res) := by kernel_rfl
def c0_pianolaref2_Ram_Put : C :=
 .seq (.ops [⟨some 13, none, .mov (.t 0)⟩,
  ⟨some 14, none, .nilc (.t 13)⟩,
  ⟨some 15, none, .fa 0 (.t 14)⟩,
  ⟨some 16, none, .ld (.t 15)⟩,
  ⟨some 17, none, .mov (.t 1)⟩,
  ⟨some 18, none, .sl 1 (.t 16) (some (.t 17)) none none⟩,
  ⟨some 19, none, .mov (.t 2)⟩,
  ⟨some 20, none, .cpy 1 (.t 18) (.t 19)⟩])
  (.seq (.ops [⟨some 21, none, .mov (.t 0)⟩,
  ⟨some 22, none, .mov (.t 1)⟩,
  ⟨some 23, none, .mov (.t 2)⟩,
  ⟨some 24, none, .len 1 (.t 23)⟩,
  ⟨some 25, none, .call n_pianolaref2_Ram_touch [(.t 21), (.t 22), (.t 24)]⟩])
  (.seq (.ops [⟨some 6, none, .mov (.c (.bool true))⟩])
  (.ret)))
def c1_pianolaref2_Ram_Put : C :=
 .seq (.seq (.ops [⟨some 7, none, .mov (.t 0)⟩,
  ⟨some 8, none, .mov (.t 1)⟩,
  ⟨some 9, none, .mov (.t 2)⟩,
  ⟨some 10, none, .len 1 (.t 9)⟩,
  ⟨some 11, none, .call n_pianolaref2_Ram_In [(.t 7), (.t 8), (.t 10)]⟩,
  ⟨some 12, none, .un .not (.t 11)⟩])
  (.cond (.t 12)
  (.seq (.ops [⟨some 6, none, .mov (.c (.bool false))⟩])
  (.ret))
  (.skip)))
  (c0_pianolaref2_Ram_Put)
def c_pianolaref2_Ram_Put : C :=
 .seq (.ops [⟨some 6, none, .mov (.c (.bool false))⟩])
  (c1_pianolaref2_Ram_Put)
def f_pianolaref2_Ram_Put : F := ⟨c_pianolaref2_Ram_Put, [.t 6], some []⟩
theorem h_pianolaref2_Ram_Put : compF Tryz.prog (compAny Tryz.prog) n_pianolaref2_Ram_Put = some (f_pianolaref2_Ram_Put.body, f_pianolaref2_Ram_Put.res) := by kernel_rfl
def c0_wheel_Wheel_Arm : C :=
 .seq (.ops [⟨some 36, none, .mov (.t 0)⟩,
  ⟨some 37, none, .nilc (.t 36)⟩,
  ⟨some 38, none, .fa 1 (.t 37)⟩,
  ⟨some 39, none, .ld (.t 38)⟩,
  ⟨some 40, none, .bin .add (.t 39) (.c (.int .i64 1))⟩,
  ⟨some 41, none, .nilc (.t 36)⟩,
  ⟨some 42, none, .fa 1 (.t 41)⟩,
  ⟨none, none, .st (.t 42) (.t 40)⟩])
  (.seq (.ops [⟨some 43, none, .mov (.t 0)⟩,
  ⟨some 44, none, .nilc (.t 43)⟩,
  ⟨some 45, none, .fa 0 (.t 44)⟩,
  ⟨some 46, none, .ld (.t 45)⟩,
  ⟨some 47, none, .call n_slices_SortStableFunc_api_Event_api_Event [(.t 46), (.f n_wheel_Wheel_Arm_1)]⟩])
  (.seq (.ops [⟨some 6, none, .mov (.c (.bool true))⟩])
  (.ret)))
def c1_wheel_Wheel_Arm : C :=
 .seq (.any 1 [.op 1 ⟨some 21, none, .mov (.t 0)⟩,
  .op 2 ⟨some 22, none, .nilc (.t 21)⟩,
  .op 3 ⟨some 23, none, .fa 0 (.t 22)⟩,
  .op 4 ⟨some 24, none, .ld (.t 23)⟩,
  .op 7 ⟨some 27, none, .mov (.t 0)⟩,
  .op 8 ⟨some 28, none, .nilc (.t 27)⟩,
  .op 9 ⟨some 29, none, .fa 1 (.t 28)⟩,
  .op 10 ⟨some 30, none, .ld (.t 29)⟩,
  .op 5 ⟨some 25, none, .mov (.t 2)⟩,
  .op 6 ⟨some 26, none, .mov (.t 1)⟩,
  .op 11 ⟨some 31, none, .build [(.int .i64 0), (.int .i64 0), (.int .i64 0)] [(0, 1, (.t 25)), (1, 1, (.t 26)), (2, 1, (.t 30))]⟩,
  .al 12 0 ⟨some 32, none, .bsl 1 [(.int .i64 0), (.int .i64 0), (.int .i64 0)] [(0, 3, (.t 31))]⟩,
  .op 13 ⟨some 33, none, .app 3 24 (.t 24) (.t 32)⟩,
  .op 0 ⟨some 20, none, .mov (.t 0)⟩,
  .op 14 ⟨some 34, none, .nilc (.t 20)⟩,
  .op 15 ⟨some 35, none, .fa 0 (.t 34)⟩,
  .op 16 ⟨none, none, .st (.t 35) (.t 33)⟩])
  (c0_wheel_Wheel_Arm)
def c2_wheel_Wheel_Arm : C :=
 .seq (.seq (.ops [⟨some 7, none, .mov (.t 1)⟩,
  ⟨some 8, none, .bin .lss (.t 7) (.c (.int .i64 0))⟩,
  ⟨some 9, none, .mov (.t 8)⟩,
  ⟨some 10, some (9, false), .mov (.t 1)⟩,
  ⟨some 11, some (9, false), .bin .geq (.t 10) (.c (.int .i64 16))⟩,
  ⟨some 12, none, .pick (.t 9) (.c (.bool true)) (.t 11)⟩,
  ⟨some 13, none, .mov (.t 12)⟩,
  ⟨some 14, some (13, false), .mov (.t 2)⟩,
  ⟨some 15, some (13, false), .bin .lss (.t 14) (.c (.int .i64 0))⟩,
  ⟨some 16, none, .pick (.t 13) (.c (.bool true)) (.t 15)⟩])
  (.cond (.t 16)
  (.seq (.ops [⟨some 6, none, .mov (.c (.bool false))⟩])
  (.ret))
  (.skip)))
  (.seq (.ops [⟨some 17, none, .mov (.t 0)⟩,
  ⟨some 18, none, .mov (.t 1)⟩,
  ⟨some 19, none, .call n_wheel_Wheel_Cancel [(.t 17), (.t 18)]⟩])
  (c1_wheel_Wheel_Arm))
def c_wheel_Wheel_Arm : C :=
 .seq (.ops [⟨some 6, none, .mov (.c (.bool false))⟩])
  (c2_wheel_Wheel_Arm)
def f_wheel_Wheel_Arm : F := ⟨c_wheel_Wheel_Arm, [.t 6], some []⟩
theorem h_wheel_Wheel_Arm : compF Tryz.prog (compAny Tryz.prog) n_wheel_Wheel_Arm = some (f_wheel_Wheel_Arm.body, f_wheel_Wheel_Arm.res) := by kernel_rfl
def c_wheel_Wheel_find : C :=
 .seq (.ops [⟨some 3, none, .box (.t 1)⟩,
  ⟨some 4, none, .mov (.c (.int .i64 0))⟩])
  (.seq (.ops [⟨some 5, none, .mov (.t 0)⟩,
  ⟨some 6, none, .nilc (.t 5)⟩,
  ⟨some 7, none, .fa 0 (.t 6)⟩,
  ⟨some 8, none, .ld (.t 7)⟩,
  ⟨some 9, none, .mkf n_wheel_Wheel_find_1 [(.t 3)]⟩,
  ⟨some 10, none, .call n_slices_IndexFunc_api_Event_api_Event [(.t 8), (.t 9)]⟩,
  ⟨some 4, none, .mov (.t 10)⟩])
  (.ret))
def f_wheel_Wheel_find : F := ⟨c_wheel_Wheel_find, [.t 4], some []⟩
theorem h_wheel_Wheel_find : compF Tryz.prog (compAny Tryz.prog) n_wheel_Wheel_find = some (f_wheel_Wheel_find.body, f_wheel_Wheel_find.res) := by kernel_rfl
def c_disk_Disk_Sectors : C :=
 .seq (.ops [⟨some 2, none, .mov (.c (.int .i64 0))⟩])
  (.seq (.ops [⟨some 3, none, .mov (.t 0)⟩,
  ⟨some 4, none, .nilc (.t 3)⟩,
  ⟨some 5, none, .fa 3 (.t 4)⟩,
  ⟨some 6, none, .ld (.t 5)⟩,
  ⟨some 7, none, .len 1 (.t 6)⟩,
  ⟨some 8, none, .bin .quo (.t 7) (.c (.int .i64 64))⟩,
  ⟨some 2, none, .mov (.t 8)⟩])
  (.ret))
def f_disk_Disk_Sectors : F := ⟨c_disk_Disk_Sectors, [.t 2], some []⟩
theorem h_disk_Disk_Sectors : compF Tryz.prog (compAny Tryz.prog) n_disk_Disk_Sectors = some (f_disk_Disk_Sectors.body, f_disk_Disk_Sectors.res) := by kernel_rfl
def c_slices_SortStableFunc_api_Event_api_Event : C :=
 .ops [⟨some 4, none, .mov (.t 0)⟩,
  ⟨some 5, none, .mov (.t 0)⟩,
  ⟨some 6, none, .len 1 (.t 5)⟩,
  ⟨some 7, none, .mov (.t 1)⟩,
  ⟨some 8, none, .call n_slices_stableCmpFunc_api_Event [(.t 4), (.t 6), (.t 7)]⟩]
def f_slices_SortStableFunc_api_Event_api_Event : F := ⟨c_slices_SortStableFunc_api_Event_api_Event, [], some []⟩
theorem h_slices_SortStableFunc_api_Event_api_Event : compF Tryz.prog (compAny Tryz.prog) n_slices_SortStableFunc_api_Event_api_Event = some (f_slices_SortStableFunc_api_Event_api_Event.body, f_slices_SortStableFunc_api_Event_api_Event.res) := by kernel_rfl
def c_wheel_Wheel_Arm_1 : C :=
 .seq (.ops [⟨some 2, none, .box (.t 0)⟩,
  ⟨some 3, none, .box (.t 1)⟩,
  ⟨some 4, none, .mov (.c (.int .i64 0))⟩])
  (.seq (.ops [⟨some 5, none, .fa 0 (.t 2)⟩,
  ⟨some 6, none, .ld (.t 5)⟩,
  ⟨some 7, none, .fa 0 (.t 3)⟩,
  ⟨some 8, none, .ld (.t 7)⟩,
  ⟨some 9, none, .call n_cmp_Compare_int64 [(.t 6), (.t 8)]⟩,
  ⟨some 4, none, .mov (.t 9)⟩])
  (.ret))
def f_wheel_Wheel_Arm_1 : F := ⟨c_wheel_Wheel_Arm_1, [.t 4], some []⟩
theorem h_wheel_Wheel_Arm_1 : compF Tryz.prog (compAny Tryz.prog) n_wheel_Wheel_Arm_1 = some (f_wheel_Wheel_Arm_1.body, f_wheel_Wheel_Arm_1.res) := by kernel_rfl
def c0_cmp_Compare_int64 : C :=
 .seq (.seq (.ops [⟨some 14, none, .mov (.t 0)⟩,
  ⟨some 15, none, .mov (.t 1)⟩,
  ⟨some 16, none, .bin .lss (.t 14) (.t 15)⟩])
  (.cond (.t 16)
  (.seq (.ops [⟨some 4, none, .mov (.c (.int .i64 (-1)))⟩])
  (.ret))
  (.skip)))
  (.seq (.seq (.ops [⟨some 17, none, .mov (.t 0)⟩,
  ⟨some 18, none, .mov (.t 1)⟩,
  ⟨some 19, none, .bin .gtr (.t 17) (.t 18)⟩])
  (.cond (.t 19)
  (.seq (.ops [⟨some 4, none, .mov (.c (.int .i64 1))⟩])
  (.ret))
  (.skip)))
  (.seq (.ops [⟨some 4, none, .mov (.c (.int .i64 0))⟩])
  (.ret)))
def c1_cmp_Compare_int64 : C :=
 .seq (.seq (.ops [⟨some 11, none, .mov (.t 5)⟩])
  (.cond (.t 11)
  (.seq (.seq (.ops [⟨some 12, none, .mov (.t 6)⟩])
  (.cond (.t 12)
  (.seq (.ops [⟨some 4, none, .mov (.c (.int .i64 0))⟩])
  (.ret))
  (.skip)))
  (.seq (.ops [⟨some 4, none, .mov (.c (.int .i64 (-1)))⟩])
  (.ret)))
  (.skip)))
  (.seq (.seq (.ops [⟨some 13, none, .mov (.t 6)⟩])
  (.cond (.t 13)
  (.seq (.ops [⟨some 4, none, .mov (.c (.int .i64 1))⟩])
  (.ret))
  (.skip)))
  (c0_cmp_Compare_int64))
def c_cmp_Compare_int64 : C :=
 .seq (.ops [⟨some 4, none, .mov (.c (.int .i64 0))⟩])
  (.seq (.ops [⟨some 7, none, .mov (.t 0)⟩,
  ⟨some 8, none, .call n_cmp_isNaN_int64 [(.t 7)]⟩,
  ⟨some 5, none, .mov (.t 8)⟩])
  (.seq (.ops [⟨some 9, none, .mov (.t 1)⟩,
  ⟨some 10, none, .call n_cmp_isNaN_int64 [(.t 9)]⟩,
  ⟨some 6, none, .mov (.t 10)⟩])
  (c1_cmp_Compare_int64)))
def f_cmp_Compare_int64 : F := ⟨c_cmp_Compare_int64, [.t 4], some []⟩
theorem h_cmp_Compare_int64 : compF Tryz.prog (compAny Tryz.prog) n_cmp_Compare_int64 = some (f_cmp_Compare_int64.body, f_cmp_Compare_int64.res) := by kernel_rfl
def c0_slices_IndexFunc_api_Event_api_Event : C :=
 .seq (.ops [⟨some 11, none, .mov (.t 1)⟩,
  ⟨some 12, none, .mov (.t 0)⟩,
  ⟨some 13, none, .mov (.t 5)⟩,
  ⟨some 14, none, .ia 3 (.t 12) (.t 13)⟩,
  ⟨some 15, none, .ldn 3 (.t 14)⟩,
  ⟨some 16, none, .callv (.t 11) [(.t 15)]⟩])
  (.cond (.t 16)
  (.seq (.ops [⟨some 17, none, .mov (.t 5)⟩,
  ⟨some 4, none, .mov (.t 17)⟩])
  (.ret))
  (.skip))
def c1_slices_IndexFunc_api_Event_api_Event : C :=
 .seq (.ops [⟨some 9, none, .bin .lss (.t 8) (.t 7)⟩])
  (.seq (.cond (.t 9)
  (.skip)
  (.exit 0))
  (.seq (.block 1
  (.seq (.ops [⟨some 10, none, .mov (.t 8)⟩,
  ⟨some 5, none, .mov (.t 10)⟩])
  (c0_slices_IndexFunc_api_Event_api_Event)))
  (.ops [⟨some 18, none, .bin .add (.t 8) (.c (.int .i64 1))⟩,
  ⟨some 8, none, .mov (.t 18)⟩])))
def c_slices_IndexFunc_api_Event_api_Event : C :=
 .seq (.ops [⟨some 4, none, .mov (.c (.int .i64 0))⟩])
  (.seq (.seq (.ops [⟨some 6, none, .mov (.t 0)⟩,
  ⟨some 7, none, .len 1 (.t 6)⟩,
  ⟨some 8, none, .mov (.c (.int .i64 0))⟩])
  (.block 0
  (.loop c1_slices_IndexFunc_api_Event_api_Event)))
  (.seq (.ops [⟨some 4, none, .mov (.c (.int .i64 (-1)))⟩])
  (.ret)))
def f_slices_IndexFunc_api_Event_api_Event : F := ⟨c_slices_IndexFunc_api_Event_api_Event, [.t 4], some []⟩
theorem h_slices_IndexFunc_api_Event_api_Event : compF Tryz.prog (compAny Tryz.prog) n_slices_IndexFunc_api_Event_api_Event = some (f_slices_IndexFunc_api_Event_api_Event.body, f_slices_IndexFunc_api_Event_api_Event.res) := by kernel_rfl
def c_wheel_Wheel_find_1 : C :=
 .seq (.ops [⟨some 2, none, .box (.t 0)⟩,
  ⟨some 3, none, .mov (.c (.bool false))⟩])
  (.seq (.ops [⟨some 4, none, .fa 1 (.t 2)⟩,
  ⟨some 5, none, .ld (.t 4)⟩,
  ⟨some 6, none, .ld (.t 1)⟩,
  ⟨some 7, none, .bin .eql (.t 5) (.t 6)⟩,
  ⟨some 3, none, .mov (.t 7)⟩])
  (.ret))
def f_wheel_Wheel_find_1 : F := ⟨c_wheel_Wheel_find_1, [.t 3], some []⟩
theorem h_wheel_Wheel_find_1 : compF Tryz.prog (compAny Tryz.prog) n_wheel_Wheel_find_1 = some (f_wheel_Wheel_find_1.body, f_wheel_Wheel_find_1.res) := by kernel_rfl
def c0_slices_stableCmpFunc_api_Event : C :=
 .block 1
  (.seq (.ops [⟨some 14, none, .mov (.t 0)⟩,
  ⟨some 15, none, .mov (.t 7)⟩,
  ⟨some 16, none, .mov (.t 8)⟩,
  ⟨some 17, none, .mov (.t 2)⟩,
  ⟨some 18, none, .call n_slices_insertionSortCmpFunc_api_Event [(.t 14), (.t 15), (.t 16), (.t 17)]⟩])
  (.seq (.ops [⟨some 19, none, .mov (.t 8)⟩,
  ⟨some 7, none, .mov (.t 19)⟩])
  (.ops [⟨some 20, none, .mov (.t 8)⟩,
  ⟨some 21, none, .mov (.t 6)⟩,
  ⟨some 22, none, .bin .add (.t 20) (.t 21)⟩,
  ⟨some 8, none, .mov (.t 22)⟩])))
def c1_slices_stableCmpFunc_api_Event : C :=
 .seq (.seq (.ops [⟨some 11, none, .mov (.t 8)⟩,
  ⟨some 12, none, .mov (.t 1)⟩,
  ⟨some 13, none, .bin .leq (.t 11) (.t 12)⟩])
  (.cond (.t 13)
  (.skip)
  (.exit 0)))
  (c0_slices_stableCmpFunc_api_Event)
def c2_slices_stableCmpFunc_api_Event : C :=
 .block 5
  (.seq (.ops [⟨some 36, none, .mov (.t 0)⟩,
  ⟨some 37, none, .mov (.t 7)⟩,
  ⟨some 38, none, .mov (.t 7)⟩,
  ⟨some 39, none, .mov (.t 6)⟩,
  ⟨some 40, none, .bin .add (.t 38) (.t 39)⟩,
  ⟨some 41, none, .mov (.t 8)⟩,
  ⟨some 42, none, .mov (.t 2)⟩,
  ⟨some 43, none, .call n_slices_symMergeCmpFunc_api_Event [(.t 36), (.t 37), (.t 40), (.t 41), (.t 42)]⟩])
  (.seq (.ops [⟨some 44, none, .mov (.t 8)⟩,
  ⟨some 7, none, .mov (.t 44)⟩])
  (.ops [⟨some 45, none, .mov (.t 8)⟩,
  ⟨some 46, none, .mov (.t 6)⟩,
  ⟨some 47, none, .bin .mul (.c (.int .i64 2)) (.t 46)⟩,
  ⟨some 48, none, .bin .add (.t 45) (.t 47)⟩,
  ⟨some 8, none, .mov (.t 48)⟩])))
def c3_slices_stableCmpFunc_api_Event : C :=
 .seq (.seq (.ops [⟨some 33, none, .mov (.t 8)⟩,
  ⟨some 34, none, .mov (.t 1)⟩,
  ⟨some 35, none, .bin .leq (.t 33) (.t 34)⟩])
  (.cond (.t 35)
  (.skip)
  (.exit 4)))
  (c2_slices_stableCmpFunc_api_Event)
def c4_slices_stableCmpFunc_api_Event : C :=
 .seq (.ops [⟨some 52, none, .mov (.t 9)⟩,
  ⟨some 53, none, .mov (.t 1)⟩,
  ⟨some 54, none, .bin .lss (.t 52) (.t 53)⟩])
  (.cond (.t 54)
  (.ops [⟨some 55, none, .mov (.t 0)⟩,
  ⟨some 56, none, .mov (.t 7)⟩,
  ⟨some 57, none, .mov (.t 9)⟩,
  ⟨some 58, none, .mov (.t 1)⟩,
  ⟨some 59, none, .mov (.t 2)⟩,
  ⟨some 60, none, .call n_slices_symMergeCmpFunc_api_Event [(.t 55), (.t 56), (.t 57), (.t 58), (.t 59)]⟩])
  (.skip))
def c5_slices_stableCmpFunc_api_Event : C :=
 .seq (.block 4
  (.loop c3_slices_stableCmpFunc_api_Event))
  (.seq (.seq (.ops [⟨some 49, none, .mov (.t 7)⟩,
  ⟨some 50, none, .mov (.t 6)⟩,
  ⟨some 51, none, .bin .add (.t 49) (.t 50)⟩,
  ⟨some 9, none, .mov (.t 51)⟩])
  (c4_slices_stableCmpFunc_api_Event))
  (.ops [⟨some 61, none, .mov (.t 6)⟩,
  ⟨some 62, none, .bin .mul (.t 61) (.c (.int .i64 2))⟩,
  ⟨some 6, none, .mov (.t 62)⟩]))
def c6_slices_stableCmpFunc_api_Event : C :=
 .seq (.seq (.ops [⟨some 28, none, .mov (.t 6)⟩,
  ⟨some 29, none, .mov (.t 1)⟩,
  ⟨some 30, none, .bin .lss (.t 28) (.t 29)⟩])
  (.cond (.t 30)
  (.skip)
  (.exit 2)))
  (.block 3
  (.seq (.ops [⟨some 31, none, .mov (.t 6)⟩,
  ⟨some 32, none, .bin .mul (.c (.int .i64 2)) (.t 31)⟩,
  ⟨some 7, none, .mov (.c (.int .i64 0))⟩,
  ⟨some 8, none, .mov (.t 32)⟩])
  (c5_slices_stableCmpFunc_api_Event)))
def c7_slices_stableCmpFunc_api_Event : C :=
 .seq (.ops [⟨some 10, none, .mov (.t 6)⟩,
  ⟨some 7, none, .mov (.c (.int .i64 0))⟩,
  ⟨some 8, none, .mov (.t 10)⟩])
  (.seq (.block 0
  (.loop c1_slices_stableCmpFunc_api_Event))
  (.seq (.ops [⟨some 23, none, .mov (.t 0)⟩,
  ⟨some 24, none, .mov (.t 7)⟩,
  ⟨some 25, none, .mov (.t 1)⟩,
  ⟨some 26, none, .mov (.t 2)⟩,
  ⟨some 27, none, .call n_slices_insertionSortCmpFunc_api_Event [(.t 23), (.t 24), (.t 25), (.t 26)]⟩])
  (.block 2
  (.loop c6_slices_stableCmpFunc_api_Event))))
def c_slices_stableCmpFunc_api_Event : C :=
 .seq (.ops [⟨some 6, none, .mov (.c (.int .i64 20))⟩])
  (c7_slices_stableCmpFunc_api_Event)
def f_slices_stableCmpFunc_api_Event : F := ⟨c_slices_stableCmpFunc_api_Event, [], some []⟩
theorem h_slices_stableCmpFunc_api_Event : compF Tryz.prog (compAny Tryz.prog) n_slices_stableCmpFunc_api_Event = some (f_slices_stableCmpFunc_api_Event.body, f_slices_stableCmpFunc_api_Event.res) := by kernel_rfl
def c_cmp_isNaN_int64 : C :=
 .seq (.ops [⟨some 2, none, .mov (.c (.bool false))⟩])
  (.seq (.ops [⟨some 3, none, .mov (.t 0)⟩,
  ⟨some 4, none, .mov (.t 0)⟩,
  ⟨some 5, none, .bin .neq (.t 3) (.t 4)⟩,
  ⟨some 2, none, .mov (.t 5)⟩])
  (.ret))
def f_cmp_isNaN_int64 : F := ⟨c_cmp_isNaN_int64, [.t 2], some []⟩
theorem h_cmp_isNaN_int64 : compF Tryz.prog (compAny Tryz.prog) n_cmp_isNaN_int64 = some (f_cmp_isNaN_int64.body, f_cmp_isNaN_int64.res) := by kernel_rfl
def c0_slices_insertionSortCmpFunc_api_Event : C :=
 .seq (.block 3
  (.any 0 [.op 5 ⟨some 42, none, .mov (.t 0)⟩,
  .op 6 ⟨some 43, none, .mov (.t 9)⟩,
  .op 7 ⟨some 44, none, .bin .sub (.t 43) (.c (.int .i64 1))⟩,
  .op 8 ⟨some 45, none, .ia 3 (.t 42) (.t 44)⟩,
  .op 9 ⟨some 46, none, .ldn 3 (.t 45)⟩,
  .op 10 ⟨some 47, none, .mov (.t 0)⟩,
  .op 11 ⟨some 48, none, .mov (.t 9)⟩,
  .op 12 ⟨some 49, none, .ia 3 (.t 47) (.t 48)⟩,
  .op 13 ⟨some 50, none, .ldn 3 (.t 49)⟩,
  .op 0 ⟨some 37, none, .mov (.t 0)⟩,
  .op 1 ⟨some 38, none, .mov (.t 9)⟩,
  .op 14 ⟨some 51, none, .ia 3 (.t 37) (.t 38)⟩,
  .op 15 ⟨none, none, .stn 3 (.t 51) (.t 46)⟩,
  .op 2 ⟨some 39, none, .mov (.t 0)⟩,
  .op 3 ⟨some 40, none, .mov (.t 9)⟩,
  .op 4 ⟨some 41, none, .bin .sub (.t 40) (.c (.int .i64 1))⟩,
  .op 16 ⟨some 52, none, .ia 3 (.t 39) (.t 41)⟩,
  .op 17 ⟨none, none, .stn 3 (.t 52) (.t 50)⟩]))
  (.ops [⟨some 35, none, .mov (.t 9)⟩,
  ⟨some 36, none, .bin .sub (.t 35) (.c (.int .i64 1))⟩,
  ⟨some 9, none, .mov (.t 36)⟩])
def c1_slices_insertionSortCmpFunc_api_Event : C :=
 .seq (.seq (.any 0 [.op 0 ⟨some 18, none, .mov (.t 9)⟩,
  .op 1 ⟨some 19, none, .mov (.t 1)⟩,
  .op 2 ⟨some 20, none, .bin .gtr (.t 18) (.t 19)⟩,
  .op 3 ⟨some 21, none, .mov (.t 20)⟩,
  .op 5 ⟨some 23, some (21, true), .mov (.t 0)⟩,
  .op 6 ⟨some 24, some (21, true), .mov (.t 9)⟩,
  .op 7 ⟨some 25, some (21, true), .ia 3 (.t 23) (.t 24)⟩,
  .op 8 ⟨some 26, some (21, true), .ldn 3 (.t 25)⟩,
  .op 9 ⟨some 27, some (21, true), .mov (.t 0)⟩,
  .op 10 ⟨some 28, some (21, true), .mov (.t 9)⟩,
  .op 11 ⟨some 29, some (21, true), .bin .sub (.t 28) (.c (.int .i64 1))⟩,
  .op 12 ⟨some 30, some (21, true), .ia 3 (.t 27) (.t 29)⟩,
  .op 13 ⟨some 31, some (21, true), .ldn 3 (.t 30)⟩,
  .op 4 ⟨some 22, some (21, true), .mov (.t 3)⟩,
  .op 14 ⟨some 32, some (21, true), .callv (.t 22) [(.t 26), (.t 31)]⟩,
  .op 15 ⟨some 33, some (21, true), .bin .lss (.t 32) (.c (.int .i64 0))⟩,
  .op 16 ⟨some 34, none, .pick (.t 21) (.t 33) (.c (.bool false))⟩])
  (.cond (.t 34)
  (.skip)
  (.exit 2)))
  (c0_slices_insertionSortCmpFunc_api_Event)
def c2_slices_insertionSortCmpFunc_api_Event : C :=
 .seq (.seq (.ops [⟨some 12, none, .mov (.t 8)⟩,
  ⟨some 13, none, .mov (.t 2)⟩,
  ⟨some 14, none, .bin .lss (.t 12) (.t 13)⟩])
  (.cond (.t 14)
  (.skip)
  (.exit 0)))
  (.seq (.block 1
  (.seq (.ops [⟨some 17, none, .mov (.t 8)⟩,
  ⟨some 9, none, .mov (.t 17)⟩])
  (.block 2
  (.loop c1_slices_insertionSortCmpFunc_api_Event))))
  (.ops [⟨some 15, none, .mov (.t 8)⟩,
  ⟨some 16, none, .bin .add (.t 15) (.c (.int .i64 1))⟩,
  ⟨some 8, none, .mov (.t 16)⟩]))
def c_slices_insertionSortCmpFunc_api_Event : C :=
 .seq (.ops [⟨some 10, none, .mov (.t 1)⟩,
  ⟨some 11, none, .bin .add (.t 10) (.c (.int .i64 1))⟩,
  ⟨some 8, none, .mov (.t 11)⟩])
  (.block 0
  (.loop c2_slices_insertionSortCmpFunc_api_Event))
def f_slices_insertionSortCmpFunc_api_Event : F := ⟨c_slices_insertionSortCmpFunc_api_Event, [], some []⟩
theorem h_slices_insertionSortCmpFunc_api_Event : compF Tryz.prog (compAny Tryz.prog) n_slices_insertionSortCmpFunc_api_Event = some (f_slices_insertionSortCmpFunc_api_Event.body, f_slices_insertionSortCmpFunc_api_Event.res) := by kernel_rfl
def c0_slices_symMergeCmpFunc_api_Event : C :=
 .seq (.any 0 [.op 1 ⟨some 41, none, .mov (.t 0)⟩,
  .op 2 ⟨some 42, none, .mov (.t 12)⟩,
  .op 3 ⟨some 43, none, .ia 3 (.t 41) (.t 42)⟩,
  .op 4 ⟨some 44, none, .ldn 3 (.t 43)⟩,
  .op 5 ⟨some 45, none, .mov (.t 0)⟩,
  .op 6 ⟨some 46, none, .mov (.t 1)⟩,
  .op 7 ⟨some 47, none, .ia 3 (.t 45) (.t 46)⟩,
  .op 8 ⟨some 48, none, .ldn 3 (.t 47)⟩,
  .op 0 ⟨some 40, none, .mov (.t 4)⟩,
  .op 9 ⟨some 49, none, .callv (.t 40) [(.t 44), (.t 48)]⟩,
  .op 10 ⟨some 50, none, .bin .lss (.t 49) (.c (.int .i64 0))⟩])
  (.cond (.t 50)
  (.ops [⟨some 51, none, .mov (.t 12)⟩,
  ⟨some 52, none, .bin .add (.t 51) (.c (.int .i64 1))⟩,
  ⟨some 10, none, .mov (.t 52)⟩])
  (.ops [⟨some 53, none, .mov (.t 12)⟩,
  ⟨some 11, none, .mov (.t 53)⟩]))
def c1_slices_symMergeCmpFunc_api_Event : C :=
 .block 1
  (.seq (.ops [⟨some 34, none, .mov (.t 10)⟩,
  ⟨some 35, none, .mov (.t 11)⟩,
  ⟨some 36, none, .bin .add (.t 34) (.t 35)⟩,
  ⟨some 37, none, .conv .u64 (.t 36)⟩,
  ⟨some 38, none, .bin .shr (.t 37) (.c (.int .u64 1))⟩,
  ⟨some 39, none, .conv .i64 (.t 38)⟩,
  ⟨some 12, none, .mov (.t 39)⟩])
  (c0_slices_symMergeCmpFunc_api_Event))
def c2_slices_symMergeCmpFunc_api_Event : C :=
 .seq (.seq (.ops [⟨some 31, none, .mov (.t 10)⟩,
  ⟨some 32, none, .mov (.t 11)⟩,
  ⟨some 33, none, .bin .lss (.t 31) (.t 32)⟩])
  (.cond (.t 33)
  (.skip)
  (.exit 0)))
  (c1_slices_symMergeCmpFunc_api_Event)
def c3_slices_symMergeCmpFunc_api_Event : C :=
 .seq (.block 3
  (.any 0 [.op 5 ⟨some 66, none, .mov (.t 0)⟩,
  .op 6 ⟨some 67, none, .mov (.t 13)⟩,
  .op 7 ⟨some 68, none, .bin .add (.t 67) (.c (.int .i64 1))⟩,
  .op 8 ⟨some 69, none, .ia 3 (.t 66) (.t 68)⟩,
  .op 9 ⟨some 70, none, .ldn 3 (.t 69)⟩,
  .op 10 ⟨some 71, none, .mov (.t 0)⟩,
  .op 11 ⟨some 72, none, .mov (.t 13)⟩,
  .op 12 ⟨some 73, none, .ia 3 (.t 71) (.t 72)⟩,
  .op 13 ⟨some 74, none, .ldn 3 (.t 73)⟩,
  .op 0 ⟨some 61, none, .mov (.t 0)⟩,
  .op 1 ⟨some 62, none, .mov (.t 13)⟩,
  .op 14 ⟨some 75, none, .ia 3 (.t 61) (.t 62)⟩,
  .op 15 ⟨none, none, .stn 3 (.t 75) (.t 70)⟩,
  .op 2 ⟨some 63, none, .mov (.t 0)⟩,
  .op 3 ⟨some 64, none, .mov (.t 13)⟩,
  .op 4 ⟨some 65, none, .bin .add (.t 64) (.c (.int .i64 1))⟩,
  .op 16 ⟨some 76, none, .ia 3 (.t 63) (.t 65)⟩,
  .op 17 ⟨none, none, .stn 3 (.t 76) (.t 74)⟩]))
  (.ops [⟨some 59, none, .mov (.t 13)⟩,
  ⟨some 60, none, .bin .add (.t 59) (.c (.int .i64 1))⟩,
  ⟨some 13, none, .mov (.t 60)⟩])
def c4_slices_symMergeCmpFunc_api_Event : C :=
 .seq (.seq (.ops [⟨some 55, none, .mov (.t 13)⟩,
  ⟨some 56, none, .mov (.t 10)⟩,
  ⟨some 57, none, .bin .sub (.t 56) (.c (.int .i64 1))⟩,
  ⟨some 58, none, .bin .lss (.t 55) (.t 57)⟩])
  (.cond (.t 58)
  (.skip)
  (.exit 2)))
  (c3_slices_symMergeCmpFunc_api_Event)
def c5_slices_symMergeCmpFunc_api_Event : C :=
 .seq (.ops [⟨some 29, none, .mov (.t 2)⟩,
  ⟨some 10, none, .mov (.t 29)⟩])
  (.seq (.ops [⟨some 30, none, .mov (.t 3)⟩,
  ⟨some 11, none, .mov (.t 30)⟩])
  (.seq (.block 0
  (.loop c2_slices_symMergeCmpFunc_api_Event))
  (.seq (.seq (.ops [⟨some 54, none, .mov (.t 1)⟩,
  ⟨some 13, none, .mov (.t 54)⟩])
  (.block 2
  (.loop c4_slices_symMergeCmpFunc_api_Event)))
  (.ret))))
def c6_slices_symMergeCmpFunc_api_Event : C :=
 .seq (.any 0 [.op 1 ⟨some 93, none, .mov (.t 0)⟩,
  .op 2 ⟨some 94, none, .mov (.t 2)⟩,
  .op 3 ⟨some 95, none, .ia 3 (.t 93) (.t 94)⟩,
  .op 4 ⟨some 96, none, .ldn 3 (.t 95)⟩,
  .op 5 ⟨some 97, none, .mov (.t 0)⟩,
  .op 6 ⟨some 98, none, .mov (.t 16)⟩,
  .op 7 ⟨some 99, none, .ia 3 (.t 97) (.t 98)⟩,
  .op 8 ⟨some 100, none, .ldn 3 (.t 99)⟩,
  .op 0 ⟨some 92, none, .mov (.t 4)⟩,
  .op 9 ⟨some 101, none, .callv (.t 92) [(.t 96), (.t 100)]⟩,
  .op 10 ⟨some 102, none, .bin .lss (.t 101) (.c (.int .i64 0))⟩,
  .op 11 ⟨some 103, none, .un .not (.t 102)⟩])
  (.cond (.t 103)
  (.ops [⟨some 104, none, .mov (.t 16)⟩,
  ⟨some 105, none, .bin .add (.t 104) (.c (.int .i64 1))⟩,
  ⟨some 14, none, .mov (.t 105)⟩])
  (.ops [⟨some 106, none, .mov (.t 16)⟩,
  ⟨some 15, none, .mov (.t 106)⟩]))
def c7_slices_symMergeCmpFunc_api_Event : C :=
 .block 5
  (.seq (.ops [⟨some 86, none, .mov (.t 14)⟩,
  ⟨some 87, none, .mov (.t 15)⟩,
  ⟨some 88, none, .bin .add (.t 86) (.t 87)⟩,
  ⟨some 89, none, .conv .u64 (.t 88)⟩,
  ⟨some 90, none, .bin .shr (.t 89) (.c (.int .u64 1))⟩,
  ⟨some 91, none, .conv .i64 (.t 90)⟩,
  ⟨some 16, none, .mov (.t 91)⟩])
  (c6_slices_symMergeCmpFunc_api_Event))
def c8_slices_symMergeCmpFunc_api_Event : C :=
 .seq (.seq (.ops [⟨some 83, none, .mov (.t 14)⟩,
  ⟨some 84, none, .mov (.t 15)⟩,
  ⟨some 85, none, .bin .lss (.t 83) (.t 84)⟩])
  (.cond (.t 85)
  (.skip)
  (.exit 4)))
  (c7_slices_symMergeCmpFunc_api_Event)
def c9_slices_symMergeCmpFunc_api_Event : C :=
 .seq (.block 7
  (.any 0 [.op 5 ⟨some 118, none, .mov (.t 0)⟩,
  .op 6 ⟨some 119, none, .mov (.t 17)⟩,
  .op 7 ⟨some 120, none, .bin .sub (.t 119) (.c (.int .i64 1))⟩,
  .op 8 ⟨some 121, none, .ia 3 (.t 118) (.t 120)⟩,
  .op 9 ⟨some 122, none, .ldn 3 (.t 121)⟩,
  .op 10 ⟨some 123, none, .mov (.t 0)⟩,
  .op 11 ⟨some 124, none, .mov (.t 17)⟩,
  .op 12 ⟨some 125, none, .ia 3 (.t 123) (.t 124)⟩,
  .op 13 ⟨some 126, none, .ldn 3 (.t 125)⟩,
  .op 0 ⟨some 113, none, .mov (.t 0)⟩,
  .op 1 ⟨some 114, none, .mov (.t 17)⟩,
  .op 14 ⟨some 127, none, .ia 3 (.t 113) (.t 114)⟩,
  .op 15 ⟨none, none, .stn 3 (.t 127) (.t 122)⟩,
  .op 2 ⟨some 115, none, .mov (.t 0)⟩,
  .op 3 ⟨some 116, none, .mov (.t 17)⟩,
  .op 4 ⟨some 117, none, .bin .sub (.t 116) (.c (.int .i64 1))⟩,
  .op 16 ⟨some 128, none, .ia 3 (.t 115) (.t 117)⟩,
  .op 17 ⟨none, none, .stn 3 (.t 128) (.t 126)⟩]))
  (.ops [⟨some 111, none, .mov (.t 17)⟩,
  ⟨some 112, none, .bin .sub (.t 111) (.c (.int .i64 1))⟩,
  ⟨some 17, none, .mov (.t 112)⟩])
def c10_slices_symMergeCmpFunc_api_Event : C :=
 .seq (.seq (.ops [⟨some 108, none, .mov (.t 17)⟩,
  ⟨some 109, none, .mov (.t 14)⟩,
  ⟨some 110, none, .bin .gtr (.t 108) (.t 109)⟩])
  (.cond (.t 110)
  (.skip)
  (.exit 6)))
  (c9_slices_symMergeCmpFunc_api_Event)
def c11_slices_symMergeCmpFunc_api_Event : C :=
 .seq (.ops [⟨some 81, none, .mov (.t 1)⟩,
  ⟨some 14, none, .mov (.t 81)⟩])
  (.seq (.ops [⟨some 82, none, .mov (.t 2)⟩,
  ⟨some 15, none, .mov (.t 82)⟩])
  (.seq (.block 4
  (.loop c8_slices_symMergeCmpFunc_api_Event))
  (.seq (.seq (.ops [⟨some 107, none, .mov (.t 2)⟩,
  ⟨some 17, none, .mov (.t 107)⟩])
  (.block 6
  (.loop c10_slices_symMergeCmpFunc_api_Event)))
  (.ret))))
def c12_slices_symMergeCmpFunc_api_Event : C :=
 .cond (.t 140)
  (.seq (.ops [⟨some 141, none, .mov (.t 19)⟩,
  ⟨some 142, none, .mov (.t 3)⟩,
  ⟨some 143, none, .bin .sub (.t 141) (.t 142)⟩,
  ⟨some 20, none, .mov (.t 143)⟩])
  (.ops [⟨some 144, none, .mov (.t 18)⟩,
  ⟨some 21, none, .mov (.t 144)⟩]))
  (.seq (.ops [⟨some 145, none, .mov (.t 1)⟩,
  ⟨some 20, none, .mov (.t 145)⟩])
  (.ops [⟨some 146, none, .mov (.t 2)⟩,
  ⟨some 21, none, .mov (.t 146)⟩]))
def c13_slices_symMergeCmpFunc_api_Event : C :=
 .seq (.any 0 [.op 1 ⟨some 159, none, .mov (.t 0)⟩,
  .op 2 ⟨some 160, none, .mov (.t 22)⟩,
  .op 3 ⟨some 161, none, .mov (.t 23)⟩,
  .op 4 ⟨some 162, none, .bin .sub (.t 160) (.t 161)⟩,
  .op 5 ⟨some 163, none, .ia 3 (.t 159) (.t 162)⟩,
  .op 6 ⟨some 164, none, .ldn 3 (.t 163)⟩,
  .op 7 ⟨some 165, none, .mov (.t 0)⟩,
  .op 8 ⟨some 166, none, .mov (.t 23)⟩,
  .op 9 ⟨some 167, none, .ia 3 (.t 165) (.t 166)⟩,
  .op 10 ⟨some 168, none, .ldn 3 (.t 167)⟩,
  .op 0 ⟨some 158, none, .mov (.t 4)⟩,
  .op 11 ⟨some 169, none, .callv (.t 158) [(.t 164), (.t 168)]⟩,
  .op 12 ⟨some 170, none, .bin .lss (.t 169) (.c (.int .i64 0))⟩,
  .op 13 ⟨some 171, none, .un .not (.t 170)⟩])
  (.cond (.t 171)
  (.ops [⟨some 172, none, .mov (.t 23)⟩,
  ⟨some 173, none, .bin .add (.t 172) (.c (.int .i64 1))⟩,
  ⟨some 20, none, .mov (.t 173)⟩])
  (.ops [⟨some 174, none, .mov (.t 23)⟩,
  ⟨some 21, none, .mov (.t 174)⟩]))
def c14_slices_symMergeCmpFunc_api_Event : C :=
 .block 9
  (.seq (.ops [⟨some 152, none, .mov (.t 20)⟩,
  ⟨some 153, none, .mov (.t 21)⟩,
  ⟨some 154, none, .bin .add (.t 152) (.t 153)⟩,
  ⟨some 155, none, .conv .u64 (.t 154)⟩,
  ⟨some 156, none, .bin .shr (.t 155) (.c (.int .u64 1))⟩,
  ⟨some 157, none, .conv .i64 (.t 156)⟩,
  ⟨some 23, none, .mov (.t 157)⟩])
  (c13_slices_symMergeCmpFunc_api_Event))
def c15_slices_symMergeCmpFunc_api_Event : C :=
 .seq (.seq (.ops [⟨some 149, none, .mov (.t 20)⟩,
  ⟨some 150, none, .mov (.t 21)⟩,
  ⟨some 151, none, .bin .lss (.t 149) (.t 150)⟩])
  (.cond (.t 151)
  (.skip)
  (.exit 8)))
  (c14_slices_symMergeCmpFunc_api_Event)
def c16_slices_symMergeCmpFunc_api_Event : C :=
 .seq (.ops [⟨some 206, none, .mov (.t 18)⟩,
  ⟨some 207, none, .mov (.t 24)⟩,
  ⟨some 208, none, .bin .lss (.t 206) (.t 207)⟩,
  ⟨some 209, none, .mov (.t 208)⟩,
  ⟨some 210, some (209, true), .mov (.t 24)⟩,
  ⟨some 211, some (209, true), .mov (.t 3)⟩,
  ⟨some 212, some (209, true), .bin .lss (.t 210) (.t 211)⟩,
  ⟨some 213, none, .pick (.t 209) (.t 212) (.c (.bool false))⟩])
  (.cond (.t 213)
  (.ops [⟨some 214, none, .mov (.t 0)⟩,
  ⟨some 215, none, .mov (.t 18)⟩,
  ⟨some 216, none, .mov (.t 24)⟩,
  ⟨some 217, none, .mov (.t 3)⟩,
  ⟨some 218, none, .mov (.t 4)⟩,
  ⟨some 219, none, .call n_slices_symMergeCmpFunc_api_Event [(.t 214), (.t 215), (.t 216), (.t 217), (.t 218)]⟩])
  (.skip))
def c17_slices_symMergeCmpFunc_api_Event : C :=
 .seq (.seq (.ops [⟨some 192, none, .mov (.t 1)⟩,
  ⟨some 193, none, .mov (.t 20)⟩,
  ⟨some 194, none, .bin .lss (.t 192) (.t 193)⟩,
  ⟨some 195, none, .mov (.t 194)⟩,
  ⟨some 196, some (195, true), .mov (.t 20)⟩,
  ⟨some 197, some (195, true), .mov (.t 18)⟩,
  ⟨some 198, some (195, true), .bin .lss (.t 196) (.t 197)⟩,
  ⟨some 199, none, .pick (.t 195) (.t 198) (.c (.bool false))⟩])
  (.cond (.t 199)
  (.ops [⟨some 200, none, .mov (.t 0)⟩,
  ⟨some 201, none, .mov (.t 1)⟩,
  ⟨some 202, none, .mov (.t 20)⟩,
  ⟨some 203, none, .mov (.t 18)⟩,
  ⟨some 204, none, .mov (.t 4)⟩,
  ⟨some 205, none, .call n_slices_symMergeCmpFunc_api_Event [(.t 200), (.t 201), (.t 202), (.t 203), (.t 204)]⟩])
  (.skip)))
  (c16_slices_symMergeCmpFunc_api_Event)
def c18_slices_symMergeCmpFunc_api_Event : C :=
 .seq (.seq (.ops [⟨some 178, none, .mov (.t 20)⟩,
  ⟨some 179, none, .mov (.t 2)⟩,
  ⟨some 180, none, .bin .lss (.t 178) (.t 179)⟩,
  ⟨some 181, none, .mov (.t 180)⟩,
  ⟨some 182, some (181, true), .mov (.t 2)⟩,
  ⟨some 183, some (181, true), .mov (.t 24)⟩,
  ⟨some 184, some (181, true), .bin .lss (.t 182) (.t 183)⟩,
  ⟨some 185, none, .pick (.t 181) (.t 184) (.c (.bool false))⟩])
  (.cond (.t 185)
  (.ops [⟨some 186, none, .mov (.t 0)⟩,
  ⟨some 187, none, .mov (.t 20)⟩,
  ⟨some 188, none, .mov (.t 2)⟩,
  ⟨some 189, none, .mov (.t 24)⟩,
  ⟨some 190, none, .mov (.t 4)⟩,
  ⟨some 191, none, .call n_slices_rotateCmpFunc_api_Event [(.t 186), (.t 187), (.t 188), (.t 189), (.t 190)]⟩])
  (.skip)))
  (c17_slices_symMergeCmpFunc_api_Event)
def c19_slices_symMergeCmpFunc_api_Event : C :=
 .seq (.ops [⟨some 147, none, .mov (.t 19)⟩,
  ⟨some 148, none, .bin .sub (.t 147) (.c (.int .i64 1))⟩,
  ⟨some 22, none, .mov (.t 148)⟩])
  (.seq (.block 8
  (.loop c15_slices_symMergeCmpFunc_api_Event))
  (.seq (.ops [⟨some 175, none, .mov (.t 19)⟩,
  ⟨some 176, none, .mov (.t 20)⟩,
  ⟨some 177, none, .bin .sub (.t 175) (.t 176)⟩,
  ⟨some 24, none, .mov (.t 177)⟩])
  (c18_slices_symMergeCmpFunc_api_Event)))
def c20_slices_symMergeCmpFunc_api_Event : C :=
 .seq (.ops [⟨some 135, none, .mov (.t 18)⟩,
  ⟨some 136, none, .mov (.t 2)⟩,
  ⟨some 137, none, .bin .add (.t 135) (.t 136)⟩,
  ⟨some 19, none, .mov (.t 137)⟩])
  (.seq (.ops [⟨some 20, none, .mov (.c (.int .i64 0))⟩,
  ⟨some 21, none, .mov (.c (.int .i64 0))⟩])
  (.seq (.seq (.ops [⟨some 138, none, .mov (.t 2)⟩,
  ⟨some 139, none, .mov (.t 18)⟩,
  ⟨some 140, none, .bin .gtr (.t 138) (.t 139)⟩])
  (c12_slices_symMergeCmpFunc_api_Event))
  (c19_slices_symMergeCmpFunc_api_Event)))
def c21_slices_symMergeCmpFunc_api_Event : C :=
 .seq (.ops [⟨some 129, none, .mov (.t 1)⟩,
  ⟨some 130, none, .mov (.t 3)⟩,
  ⟨some 131, none, .bin .add (.t 129) (.t 130)⟩,
  ⟨some 132, none, .conv .u64 (.t 131)⟩,
  ⟨some 133, none, .bin .shr (.t 132) (.c (.int .u64 1))⟩,
  ⟨some 134, none, .conv .i64 (.t 133)⟩,
  ⟨some 18, none, .mov (.t 134)⟩])
  (c20_slices_symMergeCmpFunc_api_Event)
def c_slices_symMergeCmpFunc_api_Event : C :=
 .seq (.seq (.ops [⟨some 25, none, .mov (.t 2)⟩,
  ⟨some 26, none, .mov (.t 1)⟩,
  ⟨some 27, none, .bin .sub (.t 25) (.t 26)⟩,
  ⟨some 28, none, .bin .eql (.t 27) (.c (.int .i64 1))⟩])
  (.cond (.t 28)
  (c5_slices_symMergeCmpFunc_api_Event)
  (.skip)))
  (.seq (.seq (.ops [⟨some 77, none, .mov (.t 3)⟩,
  ⟨some 78, none, .mov (.t 2)⟩,
  ⟨some 79, none, .bin .sub (.t 77) (.t 78)⟩,
  ⟨some 80, none, .bin .eql (.t 79) (.c (.int .i64 1))⟩])
  (.cond (.t 80)
  (c11_slices_symMergeCmpFunc_api_Event)
  (.skip)))
  (c21_slices_symMergeCmpFunc_api_Event))
def f_slices_symMergeCmpFunc_api_Event : F := ⟨c_slices_symMergeCmpFunc_api_Event, [], some []⟩
theorem h_slices_symMergeCmpFunc_api_Event : compF Tryz.prog (compAny Tryz.prog) n_slices_symMergeCmpFunc_api_Event = some (f_slices_symMergeCmpFunc_api_Event.body, f_slices_symMergeCmpFunc_api_Event.res) := by kernel_rfl
def c0_slices_rotateCmpFunc_api_Event : C :=
 .seq (.ops [⟨some 24, none, .mov (.t 0)⟩,
  ⟨some 25, none, .mov (.t 2)⟩,
  ⟨some 26, none, .mov (.t 10)⟩,
  ⟨some 27, none, .bin .sub (.t 25) (.t 26)⟩,
  ⟨some 28, none, .mov (.t 2)⟩,
  ⟨some 29, none, .mov (.t 11)⟩,
  ⟨some 30, none, .mov (.t 4)⟩,
  ⟨some 31, none, .call n_slices_swapRangeCmpFunc_api_Event [(.t 24), (.t 27), (.t 28), (.t 29), (.t 30)]⟩])
  (.ops [⟨some 32, none, .mov (.t 10)⟩,
  ⟨some 33, none, .mov (.t 11)⟩,
  ⟨some 34, none, .bin .sub (.t 32) (.t 33)⟩,
  ⟨some 10, none, .mov (.t 34)⟩])
def c1_slices_rotateCmpFunc_api_Event : C :=
 .seq (.ops [⟨some 35, none, .mov (.t 0)⟩,
  ⟨some 36, none, .mov (.t 2)⟩,
  ⟨some 37, none, .mov (.t 10)⟩,
  ⟨some 38, none, .bin .sub (.t 36) (.t 37)⟩,
  ⟨some 39, none, .mov (.t 2)⟩,
  ⟨some 40, none, .mov (.t 11)⟩,
  ⟨some 41, none, .bin .add (.t 39) (.t 40)⟩,
  ⟨some 42, none, .mov (.t 10)⟩,
  ⟨some 43, none, .bin .sub (.t 41) (.t 42)⟩,
  ⟨some 44, none, .mov (.t 10)⟩,
  ⟨some 45, none, .mov (.t 4)⟩,
  ⟨some 46, none, .call n_slices_swapRangeCmpFunc_api_Event [(.t 35), (.t 38), (.t 43), (.t 44), (.t 45)]⟩])
  (.ops [⟨some 47, none, .mov (.t 11)⟩,
  ⟨some 48, none, .mov (.t 10)⟩,
  ⟨some 49, none, .bin .sub (.t 47) (.t 48)⟩,
  ⟨some 11, none, .mov (.t 49)⟩])
def c2_slices_rotateCmpFunc_api_Event : C :=
 .seq (.seq (.ops [⟨some 18, none, .mov (.t 10)⟩,
  ⟨some 19, none, .mov (.t 11)⟩,
  ⟨some 20, none, .bin .neq (.t 18) (.t 19)⟩])
  (.cond (.t 20)
  (.skip)
  (.exit 0)))
  (.block 1
  (.seq (.ops [⟨some 21, none, .mov (.t 10)⟩,
  ⟨some 22, none, .mov (.t 11)⟩,
  ⟨some 23, none, .bin .gtr (.t 21) (.t 22)⟩])
  (.cond (.t 23)
  (c0_slices_rotateCmpFunc_api_Event)
  (c1_slices_rotateCmpFunc_api_Event))))
def c3_slices_rotateCmpFunc_api_Event : C :=
 .ops [⟨some 50, none, .mov (.t 0)⟩,
  ⟨some 51, none, .mov (.t 2)⟩,
  ⟨some 52, none, .mov (.t 10)⟩,
  ⟨some 53, none, .bin .sub (.t 51) (.t 52)⟩,
  ⟨some 54, none, .mov (.t 2)⟩,
  ⟨some 55, none, .mov (.t 10)⟩,
  ⟨some 56, none, .mov (.t 4)⟩,
  ⟨some 57, none, .call n_slices_swapRangeCmpFunc_api_Event [(.t 50), (.t 53), (.t 54), (.t 55), (.t 56)]⟩]
def c_slices_rotateCmpFunc_api_Event : C :=
 .seq (.ops [⟨some 12, none, .mov (.t 2)⟩,
  ⟨some 13, none, .mov (.t 1)⟩,
  ⟨some 14, none, .bin .sub (.t 12) (.t 13)⟩,
  ⟨some 10, none, .mov (.t 14)⟩])
  (.seq (.ops [⟨some 15, none, .mov (.t 3)⟩,
  ⟨some 16, none, .mov (.t 2)⟩,
  ⟨some 17, none, .bin .sub (.t 15) (.t 16)⟩,
  ⟨some 11, none, .mov (.t 17)⟩])
  (.seq (.block 0
  (.loop c2_slices_rotateCmpFunc_api_Event))
  (c3_slices_rotateCmpFunc_api_Event)))
def f_slices_rotateCmpFunc_api_Event : F := ⟨c_slices_rotateCmpFunc_api_Event, [], some []⟩
theorem h_slices_rotateCmpFunc_api_Event : compF Tryz.prog (compAny Tryz.prog) n_slices_rotateCmpFunc_api_Event = some (f_slices_rotateCmpFunc_api_Event.body, f_slices_rotateCmpFunc_api_Event.res) := by kernel_rfl
def c0_slices_swapRangeCmpFunc_api_Event : C :=
 .seq (.block 1
  (.any 0 [.op 8 ⟨some 24, none, .mov (.t 0)⟩,
  .op 9 ⟨some 25, none, .mov (.t 2)⟩,
  .op 10 ⟨some 26, none, .mov (.t 10)⟩,
  .op 11 ⟨some 27, none, .bin .add (.t 25) (.t 26)⟩,
  .op 12 ⟨some 28, none, .ia 3 (.t 24) (.t 27)⟩,
  .op 13 ⟨some 29, none, .ldn 3 (.t 28)⟩,
  .op 14 ⟨some 30, none, .mov (.t 0)⟩,
  .op 15 ⟨some 31, none, .mov (.t 1)⟩,
  .op 16 ⟨some 32, none, .mov (.t 10)⟩,
  .op 17 ⟨some 33, none, .bin .add (.t 31) (.t 32)⟩,
  .op 18 ⟨some 34, none, .ia 3 (.t 30) (.t 33)⟩,
  .op 19 ⟨some 35, none, .ldn 3 (.t 34)⟩,
  .op 0 ⟨some 16, none, .mov (.t 0)⟩,
  .op 1 ⟨some 17, none, .mov (.t 1)⟩,
  .op 2 ⟨some 18, none, .mov (.t 10)⟩,
  .op 3 ⟨some 19, none, .bin .add (.t 17) (.t 18)⟩,
  .op 20 ⟨some 36, none, .ia 3 (.t 16) (.t 19)⟩,
  .op 21 ⟨none, none, .stn 3 (.t 36) (.t 29)⟩,
  .op 4 ⟨some 20, none, .mov (.t 0)⟩,
  .op 5 ⟨some 21, none, .mov (.t 2)⟩,
  .op 6 ⟨some 22, none, .mov (.t 10)⟩,
  .op 7 ⟨some 23, none, .bin .add (.t 21) (.t 22)⟩,
  .op 22 ⟨some 37, none, .ia 3 (.t 20) (.t 23)⟩,
  .op 23 ⟨none, none, .stn 3 (.t 37) (.t 35)⟩]))
  (.ops [⟨some 14, none, .mov (.t 10)⟩,
  ⟨some 15, none, .bin .add (.t 14) (.c (.int .i64 1))⟩,
  ⟨some 10, none, .mov (.t 15)⟩])
def c1_slices_swapRangeCmpFunc_api_Event : C :=
 .seq (.seq (.ops [⟨some 11, none, .mov (.t 10)⟩,
  ⟨some 12, none, .mov (.t 3)⟩,
  ⟨some 13, none, .bin .lss (.t 11) (.t 12)⟩])
  (.cond (.t 13)
  (.skip)
  (.exit 0)))
  (c0_slices_swapRangeCmpFunc_api_Event)
def c_slices_swapRangeCmpFunc_api_Event : C :=
 .seq (.ops [⟨some 10, none, .mov (.c (.int .i64 0))⟩])
  (.block 0
  (.loop c1_slices_swapRangeCmpFunc_api_Event))
def f_slices_swapRangeCmpFunc_api_Event : F := ⟨c_slices_swapRangeCmpFunc_api_Event, [], some []⟩
theorem h_slices_swapRangeCmpFunc_api_Event : compF Tryz.prog (compAny Tryz.prog) n_slices_swapRangeCmpFunc_api_Event = some (f_slices_swapRangeCmpFunc_api_Event.body, f_slices_swapRangeCmpFunc_api_Event.res) := by kernel_rfl
end Go.Proofs.YtpdfdemoflofhaaGreat.Cd
