/- Texts of one kind, one behind the other. -/
import Derived.Test.YtpdfdemoflofhaaProg
import Derived.KernelRfl
import Derived.Test.YtpdfdemoflofhaaMb0
/- The code of the functions that are reached, as the interpreter reads it. -/
set_option maxRecDepth 100000
set_option linter.defProp false
namespace Go.Proofs.Ytpdfdemoflofhaa.Cd
open Go Go.Dx
def n_pianolalaw12_UartOrder : Nat := 3
def n_pianolalaw12_UartAsks : Nat := 4
def n_pianolalaw14_DiskNumbers : Nat := 5
def n_pianolalaw13_DmaMoves : Nat := 6
def n_pianolalaw13_DmaNumbers : Nat := 7
def n_pianolalaw15_BusTimes : Nat := 8
def n_wheel_New : Nat := 9
def n_uart_New : Nat := 10
def n_uart_Uart_Write : Nat := 11
def n_wheel_Wheel_Take : Nat := 12
def n_uart_Uart_Fire : Nat := 13
def n_uart_Uart_Out : Nat := 14
def n_uart_Uart_Type : Nat := 15
def n_uart_Uart_Read : Nat := 16
def n_pianolalaw12_known : Nat := 17
def n_pianolabook_Within : Nat := 18
def n_uart_Uart_Line : Nat := 19
def n_pianolalaw14_play : Nat := 20
def n_ram_New : Nat := 21
def n_disk_New : Nat := 22
def n_disk_Disk_Sectors : Nat := 23
def n_pianolalaw14_known : Nat := 24
def n_dma_New : Nat := 25
def n_ram_Ram_Put : Nat := 26
def n_ram_Ram_Bytes : Nat := 27
def n_dma_Dma_Write : Nat := 28
def n_dma_Dma_Fire : Nat := 29
def n_dma_Dma_Read : Nat := 30
def n_pianolalaw13_known : Nat := 31
def n_pianolalaw13_play : Nat := 32
def n_bus_New : Nat := 33
def n_bus_Bus_Store : Nat := 34
def n_bus_Bus_Fire : Nat := 35
def n_bus_Bus_Raised : Nat := 36
def n_bus_Bus_Next : Nat := 37
def n_pianolalaw15_known : Nat := 38
def n_uart_put : Nat := 39
def n_uart_Uart_arm : Nat := 40
def n_wheel_Wheel_Next : Nat := 41
def n_slices_Delete_api_Event_api_Event : Nat := 42
def n_uart_take : Nat := 43
def n_slices_Clone_byte_byte : Nat := 44
def n_uart_bit : Nat := 45
def n_pianolaref15_New : Nat := 46
def n_disk_Disk_Read : Nat := 47
def n_pianolaref15_Bus_Word : Nat := 48
def n_disk_Disk_Fire : Nat := 49
def n_pianolaref9_Wheel_Take : Nat := 50
def n_pianolaref15_Bus_B1 : Nat := 51
def n_ram_Ram_Store : Nat := 52
def n_pianolaref2_Ram_Store : Nat := 53
def n_disk_Disk_Write : Nat := 54
def n_pianolaref15_Bus_Set : Nat := 55
def n_disk_Disk_Line : Nat := 56
def n_pianolaref15_Bus_Line : Nat := 57
def n_pianolabook_Same_api_Event : Nat := 58
def n_wheel_Wheel_All : Nat := 59
def n_disk_Disk_Bytes : Nat := 60
def n_ram_Ram_there : Nat := 61
def n_ram_Ram_touch : Nat := 62
def n_dma_Dma_begin : Nat := 63
def n_dma_Dma_move : Nat := 64
def n_ram_Ram_Load : Nat := 65
def n_dma_Dma_Line : Nat := 66
def n_ram_Ram_Size : Nat := 67
def n_lines_New : Nat := 68
def n_timer_New : Nat := 69
def n_bus_window : Nat := 70
def n_bus_Bus_write : Nat := 71
def n_bus_Bus_gather : Nat := 72
def n_bus_Bus_fire : Nat := 73
def n_lines_Lines_Raised : Nat := 74
def n_bus_Bus_Load : Nat := 75
def n_bus_Bus_Ram : Nat := 76
def n_wheel_Wheel_Arm : Nat := 77
def n_pianolaref2_New : Nat := 78
def n_pianolaref15_bit : Nat := 79
def n_disk_Disk_do : Nat := 80
def n_pianolaref9_Wheel_Arm : Nat := 81
def n_pianolaref15_Bus_move : Nat := 82
def n_pianolaref15_Bus_sector : Nat := 83
def n_ram_Ram_even : Nat := 84
def n_pianolaref2_Ram_In : Nat := 85
def n_pianolaref2_Ram_touch : Nat := 86
def n_disk_Disk_begin : Nat := 87
def n_pianolaref15_Bus_timer : Nat := 88
def n_pianolaref15_Bus_uart : Nat := 89
def n_pianolaref15_Bus_dma : Nat := 90
def n_pianolaref15_Bus_disk : Nat := 91
def n_slices_Clone_api_Event_api_Event : Nat := 92
def n_lines_Lines_Write : Nat := 93
def n_timer_Timer_Write : Nat := 94
def n_lines_Lines_Set : Nat := 95
def n_bus_Bus_line : Nat := 96
def n_timer_Timer_Fire : Nat := 97
def n_bus_Bus_read : Nat := 98
def n_wheel_Wheel_Cancel : Nat := 99
def n_slices_SortStableFunc_api_Event_api_Event : Nat := 100
def n_wheel_Wheel_Arm_1 : Nat := 101
def n_cmp_Compare_int64 : Nat := 102
def n_pianolaref9_Wheel_Cancel : Nat := 103
def n_pianolaref2_Ram_Bytes : Nat := 104
def n_pianolaref2_Ram_Put : Nat := 105
def n_timer_Timer_arm : Nat := 106
def n_timer_Timer_Line : Nat := 107
def n_lines_Lines_Read : Nat := 108
def n_timer_Timer_Read : Nat := 109
def n_wheel_Wheel_find : Nat := 110
def n_slices_stableCmpFunc_api_Event : Nat := 111
def n_cmp_isNaN_int64 : Nat := 112
def n_slices_IndexFunc_api_Event_api_Event : Nat := 113
def n_wheel_Wheel_find_1 : Nat := 114
def n_slices_insertionSortCmpFunc_api_Event : Nat := 115
def n_slices_symMergeCmpFunc_api_Event : Nat := 116
def n_slices_rotateCmpFunc_api_Event : Nat := 117
def n_slices_swapRangeCmpFunc_api_Event : Nat := 118
end Go.Proofs.Ytpdfdemoflofhaa.Cd

/- The code of the functions that are reached, as the interpreter reads it. -/
set_option maxRecDepth 100000
set_option linter.defProp false
namespace Go.Proofs.Ytpdfdemoflofhaa.Cd
open Go Go.Dx
/- pianola/pianolalaw12.UartOrder -/
def c0_pianolalaw12_UartOrder : C :=
 .seq (.block 1
  (.seq (.ops [⟨some 38, none, .mov (.t 6)⟩,
  ⟨some 39, none, .mov (.t 0)⟩,
  ⟨some 40, none, .mov (.t 8)⟩,
  ⟨some 41, none, .ia 1 (.t 39) (.t 40)⟩,
  ⟨some 42, none, .ld (.t 41)⟩,
  ⟨some 43, none, .conv .u32 (.t 42)⟩,
  ⟨some 44, none, .call n_uart_Uart_Write [(.t 38), (.c (.int .u32 0)), (.t 43), (.c (.int .i64 0))]⟩,
  ⟨some 45, none, .un .not (.t 44)⟩])
  (.cond (.t 45)
  (.seq (.ops [⟨some 4, none, .mov (.c (.bool false))⟩])
  (.ret))
  (.skip))))
  (.ops [⟨some 36, none, .mov (.t 8)⟩,
  ⟨some 37, none, .bin .add (.t 36) (.c (.int .i64 1))⟩,
  ⟨some 8, none, .mov (.t 37)⟩])
def c1_pianolalaw12_UartOrder : C :=
 .seq (.seq (.ops [⟨some 33, none, .mov (.t 8)⟩,
  ⟨some 34, none, .mov (.t 7)⟩,
  ⟨some 35, none, .bin .lss (.t 33) (.t 34)⟩])
  (.cond (.t 35)
  (.skip)
  (.exit 0)))
  (c0_pianolalaw12_UartOrder)
def c2_pianolalaw12_UartOrder : C :=
 .seq (.seq (.ops [⟨some 57, none, .mov (.t 9)⟩,
  ⟨some 58, none, .bin .rem (.t 57) (.c (.int .i64 8))⟩,
  ⟨some 59, none, .bin .neq (.t 58) (.c (.int .i64 0))⟩,
  ⟨some 60, none, .mov (.t 59)⟩,
  ⟨some 61, some (60, false), .mov (.t 9)⟩,
  ⟨some 62, some (60, false), .bin .eql (.t 61) (.c (.int .i64 0))⟩,
  ⟨some 63, none, .pick (.t 60) (.c (.bool true)) (.t 62)⟩])
  (.cond (.t 63)
  (.seq (.ops [⟨some 4, none, .mov (.c (.bool false))⟩])
  (.ret))
  (.skip)))
  (.ops [⟨some 64, none, .mov (.t 6)⟩,
  ⟨some 65, none, .fa 0 (.t 10)⟩,
  ⟨some 66, none, .ld (.t 65)⟩,
  ⟨some 67, none, .call n_uart_Uart_Fire [(.t 64), (.t 66)]⟩])
def c3_pianolalaw12_UartOrder : C :=
 .seq (.block 3
  (.seq (.ops [⟨some 51, none, .mov (.t 5)⟩,
  ⟨some 52, none, .mov (.t 9)⟩,
  ⟨some 53, none, .call n_wheel_Wheel_Take [(.t 51), (.t 52)]⟩,
  ⟨some 50, none, .mov (.t 53)⟩,
  ⟨some 54, none, .ext (.t 50) 0⟩,
  ⟨some 55, none, .ext (.t 50) 1⟩,
  ⟨some 10, none, .new [(.int .i64 0), (.int .i64 0), (.int .i64 0)]⟩,
  ⟨none, none, .stn 3 (.t 10) (.t 54)⟩,
  ⟨some 11, none, .mov (.t 55)⟩])
  (.seq (.ops [⟨some 56, none, .mov (.t 11)⟩])
  (.cond (.t 56)
  (c2_pianolalaw12_UartOrder)
  (.skip)))))
  (.ops [⟨some 48, none, .mov (.t 9)⟩,
  ⟨some 49, none, .bin .add (.t 48) (.c (.int .i64 1))⟩,
  ⟨some 9, none, .mov (.t 49)⟩])
def c4_pianolalaw12_UartOrder : C :=
 .seq (.seq (.ops [⟨some 46, none, .mov (.t 9)⟩,
  ⟨some 47, none, .bin .lss (.t 46) (.c (.int .i64 200))⟩])
  (.cond (.t 47)
  (.skip)
  (.exit 2)))
  (c3_pianolalaw12_UartOrder)
def c5_pianolalaw12_UartOrder : C :=
 .seq (.block 5
  (.ops [⟨some 84, none, .mov (.t 6)⟩,
  ⟨some 85, none, .mov (.t 1)⟩,
  ⟨some 86, none, .mov (.t 13)⟩,
  ⟨some 87, none, .ia 1 (.t 85) (.t 86)⟩,
  ⟨some 88, none, .ld (.t 87)⟩,
  ⟨some 89, none, .call n_uart_Uart_Type [(.t 84), (.t 88)]⟩]))
  (.ops [⟨some 82, none, .mov (.t 13)⟩,
  ⟨some 83, none, .bin .add (.t 82) (.c (.int .i64 1))⟩,
  ⟨some 13, none, .mov (.t 83)⟩])
def c6_pianolalaw12_UartOrder : C :=
 .seq (.seq (.ops [⟨some 79, none, .mov (.t 13)⟩,
  ⟨some 80, none, .mov (.t 12)⟩,
  ⟨some 81, none, .bin .lss (.t 79) (.t 80)⟩])
  (.cond (.t 81)
  (.skip)
  (.exit 4)))
  (c5_pianolalaw12_UartOrder)
def c7_pianolalaw12_UartOrder : C :=
 .seq (.ops [⟨some 120, none, .mov (.t 18)⟩,
  ⟨some 121, none, .un .not (.t 120)⟩,
  ⟨some 122, none, .mov (.t 121)⟩,
  ⟨some 123, some (122, false), .mov (.t 17)⟩,
  ⟨some 124, some (122, false), .mov (.t 1)⟩,
  ⟨some 125, some (122, false), .mov (.t 16)⟩,
  ⟨some 126, some (122, false), .ia 1 (.t 124) (.t 125)⟩,
  ⟨some 127, some (122, false), .ld (.t 126)⟩,
  ⟨some 128, some (122, false), .conv .u32 (.t 127)⟩,
  ⟨some 129, some (122, false), .bin .neq (.t 123) (.t 128)⟩,
  ⟨some 130, none, .pick (.t 122) (.c (.bool true)) (.t 129)⟩])
  (.cond (.t 130)
  (.seq (.ops [⟨some 4, none, .mov (.c (.bool false))⟩])
  (.ret))
  (.skip))
def c8_pianolalaw12_UartOrder : C :=
 .seq (.block 7
  (.seq (.ops [⟨some 116, none, .mov (.t 6)⟩,
  ⟨some 117, none, .call n_uart_Uart_Read [(.t 116), (.c (.int .u32 0))]⟩,
  ⟨some 115, none, .mov (.t 117)⟩,
  ⟨some 118, none, .ext (.t 115) 0⟩,
  ⟨some 119, none, .ext (.t 115) 1⟩,
  ⟨some 17, none, .mov (.t 118)⟩,
  ⟨some 18, none, .mov (.t 119)⟩])
  (c7_pianolalaw12_UartOrder)))
  (.ops [⟨some 113, none, .mov (.t 16)⟩,
  ⟨some 114, none, .bin .add (.t 113) (.c (.int .i64 1))⟩,
  ⟨some 16, none, .mov (.t 114)⟩])
def c9_pianolalaw12_UartOrder : C :=
 .seq (.seq (.ops [⟨some 109, none, .mov (.t 16)⟩,
  ⟨some 110, none, .mov (.t 12)⟩,
  ⟨some 111, none, .mn (.t 110) (.c (.int .i64 16))⟩,
  ⟨some 112, none, .bin .lss (.t 109) (.t 111)⟩])
  (.cond (.t 112)
  (.skip)
  (.exit 6)))
  (c8_pianolalaw12_UartOrder)
def c10_pianolalaw12_UartOrder : C :=
 .seq (.ops [⟨some 132, none, .mov (.t 6)⟩,
  ⟨some 133, none, .call n_uart_Uart_Read [(.t 132), (.c (.int .u32 0))]⟩,
  ⟨some 131, none, .mov (.t 133)⟩,
  ⟨some 134, none, .ext (.t 131) 0⟩,
  ⟨some 135, none, .ext (.t 131) 1⟩,
  ⟨some 19, none, .mov (.t 134)⟩,
  ⟨some 20, none, .mov (.t 135)⟩])
  (.seq (.ops [⟨some 136, none, .mov (.t 19)⟩,
  ⟨some 137, none, .bin .eql (.t 136) (.c (.int .u32 256))⟩,
  ⟨some 138, none, .mov (.t 137)⟩,
  ⟨some 139, some (138, true), .call n_pianolalaw12_known []⟩,
  ⟨some 140, none, .pick (.t 138) (.t 139) (.c (.bool false))⟩,
  ⟨some 4, none, .mov (.t 140)⟩])
  (.ret))
def c11_pianolalaw12_UartOrder : C :=
 .seq (.seq (.ops [⟨some 95, none, .mov (.t 14)⟩,
  ⟨some 96, none, .bin .and (.t 95) (.c (.int .u32 4))⟩,
  ⟨some 97, none, .bin .neq (.t 96) (.c (.int .u32 0))⟩,
  ⟨some 98, none, .mov (.t 12)⟩,
  ⟨some 99, none, .bin .gtr (.t 98) (.c (.int .i64 16))⟩,
  ⟨some 100, none, .eqb true (.t 97) (.t 99)⟩,
  ⟨some 101, none, .mov (.t 100)⟩,
  ⟨some 102, some (101, false), .mov (.t 14)⟩,
  ⟨some 103, some (101, false), .bin .and (.t 102) (.c (.int .u32 1))⟩,
  ⟨some 104, some (101, false), .bin .neq (.t 103) (.c (.int .u32 0))⟩,
  ⟨some 105, some (101, false), .mov (.t 12)⟩,
  ⟨some 106, some (101, false), .bin .gtr (.t 105) (.c (.int .i64 0))⟩,
  ⟨some 107, some (101, false), .eqb true (.t 104) (.t 106)⟩,
  ⟨some 108, none, .pick (.t 101) (.c (.bool true)) (.t 107)⟩])
  (.cond (.t 108)
  (.seq (.ops [⟨some 4, none, .mov (.c (.bool false))⟩])
  (.ret))
  (.skip)))
  (.seq (.seq (.ops [⟨some 16, none, .mov (.c (.int .i64 0))⟩])
  (.block 6
  (.loop c9_pianolalaw12_UartOrder)))
  (c10_pianolalaw12_UartOrder))
def c12_pianolalaw12_UartOrder : C :=
 .seq (.seq (.ops [⟨some 13, none, .mov (.c (.int .i64 0))⟩])
  (.block 4
  (.loop c6_pianolalaw12_UartOrder)))
  (.seq (.ops [⟨some 91, none, .mov (.t 6)⟩,
  ⟨some 92, none, .call n_uart_Uart_Read [(.t 91), (.c (.int .u32 4))]⟩,
  ⟨some 90, none, .mov (.t 92)⟩,
  ⟨some 93, none, .ext (.t 90) 0⟩,
  ⟨some 94, none, .ext (.t 90) 1⟩,
  ⟨some 14, none, .mov (.t 93)⟩,
  ⟨some 15, none, .mov (.t 94)⟩])
  (c11_pianolalaw12_UartOrder))
def c13_pianolalaw12_UartOrder : C :=
 .seq (.seq (.any 0 [.op 3 ⟨some 71, none, .mov (.t 0)⟩,
  .op 4 ⟨some 72, none, .mov (.t 7)⟩,
  .op 5 ⟨some 73, none, .sl 1 (.t 71) none (some (.t 72)) none⟩,
  .op 6 ⟨some 74, none, .b2s (.t 73)⟩,
  .op 0 ⟨some 68, none, .mov (.t 6)⟩,
  .op 1 ⟨some 69, none, .call n_uart_Uart_Out [(.t 68)]⟩,
  .re 6 ⟨some 74, none, .b2s (.t 73)⟩,
  .op 2 ⟨some 70, none, .b2s (.t 69)⟩,
  .op 7 ⟨some 75, none, .bin .neq (.t 70) (.t 74)⟩])
  (.cond (.t 75)
  (.seq (.ops [⟨some 4, none, .mov (.c (.bool false))⟩])
  (.ret))
  (.skip)))
  (.seq (.ops [⟨some 76, none, .mov (.t 1)⟩,
  ⟨some 77, none, .len 1 (.t 76)⟩,
  ⟨some 78, none, .mn (.t 77) (.c (.int .i64 30))⟩,
  ⟨some 12, none, .mov (.t 78)⟩])
  (c12_pianolalaw12_UartOrder))
def c14_pianolalaw12_UartOrder : C :=
 .seq (.ops [⟨some 30, none, .mov (.t 0)⟩,
  ⟨some 31, none, .len 1 (.t 30)⟩,
  ⟨some 32, none, .mn (.t 31) (.c (.int .i64 16))⟩,
  ⟨some 7, none, .mov (.t 32)⟩])
  (.seq (.seq (.ops [⟨some 8, none, .mov (.c (.int .i64 0))⟩])
  (.block 0
  (.loop c1_pianolalaw12_UartOrder)))
  (.seq (.seq (.ops [⟨some 9, none, .mov (.c (.int .i64 0))⟩])
  (.block 2
  (.loop c4_pianolalaw12_UartOrder)))
  (c13_pianolalaw12_UartOrder)))
def c15_pianolalaw12_UartOrder : C :=
 .seq (.seq (.ops [⟨some 24, none, .mov (.t 5)⟩,
  ⟨some 25, none, .eqn 0 false (.t 24)⟩,
  ⟨some 26, none, .mov (.t 25)⟩,
  ⟨some 27, some (26, false), .mov (.t 6)⟩,
  ⟨some 28, some (26, false), .eqn 0 false (.t 27)⟩,
  ⟨some 29, none, .pick (.t 26) (.c (.bool true)) (.t 28)⟩])
  (.cond (.t 29)
  (.seq (.ops [⟨some 4, none, .mov (.c (.bool false))⟩])
  (.ret))
  (.skip)))
  (c14_pianolalaw12_UartOrder)
def c_pianolalaw12_UartOrder : C :=
 .seq (.ops [⟨some 4, none, .mov (.c (.bool false))⟩])
  (.seq (.ops [⟨some 21, none, .call n_wheel_New []⟩,
  ⟨some 5, none, .mov (.t 21)⟩])
  (.seq (.ops [⟨some 22, none, .mov (.t 5)⟩,
  ⟨some 23, none, .call n_uart_New [(.c (.int .i64 3)), (.t 22)]⟩,
  ⟨some 6, none, .mov (.t 23)⟩])
  (c15_pianolalaw12_UartOrder)))
def f_pianolalaw12_UartOrder : F := ⟨c_pianolalaw12_UartOrder, [.t 4], some []⟩
theorem h_pianolalaw12_UartOrder : compF Try.prog (compAny Try.prog) n_pianolalaw12_UartOrder = some (f_pianolalaw12_UartOrder.body, f_pianolalaw12_UartOrder.res) := by kernel_rfl
/- pianola/pianolalaw12.UartAsks -/
def c0_pianolalaw12_UartAsks : C :=
 .seq (.seq (.ops [⟨some 36, none, .mov (.t 11)⟩,
  ⟨some 37, none, .mov (.t 9)⟩,
  ⟨some 38, none, .bin .lss (.t 36) (.t 37)⟩])
  (.cond (.t 38)
  (.skip)
  (.exit 0)))
  (.seq (.block 1
  (.ops [⟨some 41, none, .mov (.t 8)⟩,
  ⟨some 42, none, .mov (.t 11)⟩,
  ⟨some 43, none, .conv .u8 (.t 42)⟩,
  ⟨some 44, none, .call n_uart_Uart_Type [(.t 41), (.t 43)]⟩]))
  (.ops [⟨some 39, none, .mov (.t 11)⟩,
  ⟨some 40, none, .bin .add (.t 39) (.c (.int .i64 1))⟩,
  ⟨some 11, none, .mov (.t 40)⟩]))
def c1_pianolalaw12_UartAsks : C :=
 .seq (.block 3
  (.ops [⟨some 50, none, .mov (.t 8)⟩,
  ⟨some 51, none, .mov (.t 12)⟩,
  ⟨some 52, none, .conv .u32 (.t 51)⟩,
  ⟨some 53, none, .call n_uart_Uart_Write [(.t 50), (.c (.int .u32 0)), (.t 52), (.c (.int .i64 0))]⟩]))
  (.ops [⟨some 48, none, .mov (.t 12)⟩,
  ⟨some 49, none, .bin .add (.t 48) (.c (.int .i64 1))⟩,
  ⟨some 12, none, .mov (.t 49)⟩])
def c2_pianolalaw12_UartAsks : C :=
 .seq (.seq (.ops [⟨some 45, none, .mov (.t 12)⟩,
  ⟨some 46, none, .mov (.t 10)⟩,
  ⟨some 47, none, .bin .lss (.t 45) (.t 46)⟩])
  (.cond (.t 47)
  (.skip)
  (.exit 2)))
  (c1_pianolalaw12_UartAsks)
def c3_pianolalaw12_UartAsks : C :=
 .seq (.seq (.ops [⟨some 73, none, .mov (.t 13)⟩,
  ⟨some 74, none, .mov (.t 9)⟩,
  ⟨some 75, none, .bin .lss (.t 73) (.t 74)⟩])
  (.cond (.t 75)
  (.skip)
  (.exit 4)))
  (.seq (.block 5
  (.ops [⟨some 78, none, .mov (.t 8)⟩,
  ⟨some 79, none, .call n_uart_Uart_Read [(.t 78), (.c (.int .u32 0))]⟩]))
  (.ops [⟨some 76, none, .mov (.t 13)⟩,
  ⟨some 77, none, .bin .add (.t 76) (.c (.int .i64 1))⟩,
  ⟨some 13, none, .mov (.t 77)⟩]))
def c4_pianolalaw12_UartAsks : C :=
 .seq (.block 7
  (.seq (.ops [⟨some 86, none, .mov (.t 7)⟩,
  ⟨some 87, none, .call n_wheel_Wheel_Take [(.t 86), (.c (.int .i64 1000))]⟩,
  ⟨some 85, none, .mov (.t 87)⟩,
  ⟨some 88, none, .ext (.t 85) 0⟩,
  ⟨some 89, none, .ext (.t 85) 1⟩,
  ⟨some 15, none, .new [(.int .i64 0), (.int .i64 0), (.int .i64 0)]⟩,
  ⟨none, none, .stn 3 (.t 15) (.t 88)⟩,
  ⟨some 16, none, .mov (.t 89)⟩])
  (.seq (.ops [⟨some 90, none, .mov (.t 16)⟩])
  (.cond (.t 90)
  (.ops [⟨some 91, none, .mov (.t 8)⟩,
  ⟨some 92, none, .fa 0 (.t 15)⟩,
  ⟨some 93, none, .ld (.t 92)⟩,
  ⟨some 94, none, .call n_uart_Uart_Fire [(.t 91), (.t 93)]⟩])
  (.skip)))))
  (.ops [⟨some 83, none, .mov (.t 14)⟩,
  ⟨some 84, none, .bin .add (.t 83) (.c (.int .i64 1))⟩,
  ⟨some 14, none, .mov (.t 84)⟩])
def c5_pianolalaw12_UartAsks : C :=
 .seq (.seq (.ops [⟨some 80, none, .mov (.t 14)⟩,
  ⟨some 81, none, .mov (.t 10)⟩,
  ⟨some 82, none, .bin .lss (.t 80) (.t 81)⟩])
  (.cond (.t 82)
  (.skip)
  (.exit 6)))
  (c4_pianolalaw12_UartAsks)
def c6_pianolalaw12_UartAsks : C :=
 .seq (.ops [⟨some 95, none, .mov (.t 8)⟩,
  ⟨some 96, none, .call n_uart_Uart_Line [(.t 95)]⟩,
  ⟨some 97, none, .mov (.t 0)⟩,
  ⟨some 98, none, .bin .and (.t 97) (.c (.int .u32 2))⟩,
  ⟨some 99, none, .bin .neq (.t 98) (.c (.int .u32 0))⟩,
  ⟨some 100, none, .eqb false (.t 96) (.t 99)⟩,
  ⟨some 101, none, .mov (.t 100)⟩,
  ⟨some 102, some (101, true), .mov (.t 8)⟩,
  ⟨some 103, some (101, true), .call n_uart_Uart_Out [(.t 102)]⟩,
  ⟨some 104, some (101, true), .len 1 (.t 103)⟩,
  ⟨some 105, some (101, true), .mov (.t 10)⟩,
  ⟨some 106, some (101, true), .bin .eql (.t 104) (.t 105)⟩,
  ⟨some 107, none, .pick (.t 101) (.t 106) (.c (.bool false))⟩,
  ⟨some 108, none, .mov (.t 107)⟩,
  ⟨some 109, some (108, true), .call n_pianolalaw12_known []⟩,
  ⟨some 110, none, .pick (.t 108) (.t 109) (.c (.bool false))⟩,
  ⟨some 6, none, .mov (.t 110)⟩])
  (.ret)
def c7_pianolalaw12_UartAsks : C :=
 .seq (.seq (.ops [⟨some 54, none, .mov (.t 8)⟩,
  ⟨some 55, none, .call n_uart_Uart_Line [(.t 54)]⟩,
  ⟨some 56, none, .mov (.t 0)⟩,
  ⟨some 57, none, .bin .and (.t 56) (.c (.int .u32 1))⟩,
  ⟨some 58, none, .bin .neq (.t 57) (.c (.int .u32 0))⟩,
  ⟨some 59, none, .mov (.t 58)⟩,
  ⟨some 60, some (59, true), .mov (.t 9)⟩,
  ⟨some 61, some (59, true), .bin .gtr (.t 60) (.c (.int .i64 0))⟩,
  ⟨some 62, none, .pick (.t 59) (.t 61) (.c (.bool false))⟩,
  ⟨some 63, none, .mov (.t 62)⟩,
  ⟨some 64, some (63, false), .mov (.t 0)⟩,
  ⟨some 65, some (63, false), .bin .and (.t 64) (.c (.int .u32 2))⟩,
  ⟨some 66, some (63, false), .bin .neq (.t 65) (.c (.int .u32 0))⟩,
  ⟨some 67, some (63, false), .mov (.t 66)⟩,
  ⟨some 68, some (67, true), .mov (.t 10)⟩,
  ⟨some 69, some (67, true), .bin .eql (.t 68) (.c (.int .i64 0))⟩,
  ⟨some 70, some (63, false), .pick (.t 67) (.t 69) (.c (.bool false))⟩,
  ⟨some 71, none, .pick (.t 63) (.c (.bool true)) (.t 70)⟩,
  ⟨some 72, none, .eqb true (.t 55) (.t 71)⟩])
  (.cond (.t 72)
  (.seq (.ops [⟨some 6, none, .mov (.c (.bool false))⟩])
  (.ret))
  (.skip)))
  (.seq (.seq (.ops [⟨some 13, none, .mov (.c (.int .i64 0))⟩])
  (.block 4
  (.loop c3_pianolalaw12_UartAsks)))
  (.seq (.seq (.ops [⟨some 14, none, .mov (.c (.int .i64 0))⟩])
  (.block 6
  (.loop c5_pianolalaw12_UartAsks)))
  (c6_pianolalaw12_UartAsks)))
def c8_pianolalaw12_UartAsks : C :=
 .seq (.ops [⟨some 32, none, .mov (.t 1)⟩,
  ⟨some 33, none, .call n_pianolabook_Within [(.t 32), (.c (.int .i64 0)), (.c (.int .i64 16))]⟩,
  ⟨some 34, none, .mov (.t 2)⟩,
  ⟨some 35, none, .call n_pianolabook_Within [(.t 34), (.c (.int .i64 0)), (.c (.int .i64 16))]⟩,
  ⟨some 9, none, .mov (.t 33)⟩,
  ⟨some 10, none, .mov (.t 35)⟩])
  (.seq (.seq (.ops [⟨some 11, none, .mov (.c (.int .i64 0))⟩])
  (.block 0
  (.loop c0_pianolalaw12_UartAsks)))
  (.seq (.seq (.ops [⟨some 12, none, .mov (.c (.int .i64 0))⟩])
  (.block 2
  (.loop c2_pianolalaw12_UartAsks)))
  (c7_pianolalaw12_UartAsks)))
def c9_pianolalaw12_UartAsks : C :=
 .seq (.seq (.ops [⟨some 20, none, .mov (.t 7)⟩,
  ⟨some 21, none, .eqn 0 false (.t 20)⟩,
  ⟨some 22, none, .mov (.t 21)⟩,
  ⟨some 23, some (22, false), .mov (.t 8)⟩,
  ⟨some 24, some (22, false), .eqn 0 false (.t 23)⟩,
  ⟨some 25, none, .pick (.t 22) (.c (.bool true)) (.t 24)⟩,
  ⟨some 26, none, .mov (.t 25)⟩,
  ⟨some 27, some (26, false), .mov (.t 8)⟩,
  ⟨some 28, some (26, false), .mov (.t 0)⟩,
  ⟨some 29, some (26, false), .call n_uart_Uart_Write [(.t 27), (.c (.int .u32 8)), (.t 28), (.c (.int .i64 0))]⟩,
  ⟨some 30, some (26, false), .un .not (.t 29)⟩,
  ⟨some 31, none, .pick (.t 26) (.c (.bool true)) (.t 30)⟩])
  (.cond (.t 31)
  (.seq (.ops [⟨some 6, none, .mov (.c (.bool false))⟩])
  (.ret))
  (.skip)))
  (c8_pianolalaw12_UartAsks)
def c_pianolalaw12_UartAsks : C :=
 .seq (.ops [⟨some 6, none, .mov (.c (.bool false))⟩])
  (.seq (.ops [⟨some 17, none, .call n_wheel_New []⟩,
  ⟨some 7, none, .mov (.t 17)⟩])
  (.seq (.ops [⟨some 18, none, .mov (.t 7)⟩,
  ⟨some 19, none, .call n_uart_New [(.c (.int .i64 3)), (.t 18)]⟩,
  ⟨some 8, none, .mov (.t 19)⟩])
  (c9_pianolalaw12_UartAsks)))
def f_pianolalaw12_UartAsks : F := ⟨c_pianolalaw12_UartAsks, [.t 6], some []⟩
theorem h_pianolalaw12_UartAsks : compF Try.prog (compAny Try.prog) n_pianolalaw12_UartAsks = some (f_pianolalaw12_UartAsks.body, f_pianolalaw12_UartAsks.res) := by kernel_rfl
/- pianola/pianolalaw14.DiskNumbers -/
def c0_pianolalaw14_DiskNumbers : C :=
 .seq (.block 1
  (.any 3 [.al 1 0 ⟨some 12, none, .bsl 7 [(.int .i64 0), (.int .i64 0), (.int .i64 0), (.int .i64 0), (.int .i64 0), (.int .i64 0), (.int .i64 0)] [(0, 1, (.c (.int .i64 5))), (1, 1, (.c (.int .i64 0))), (2, 1, (.c (.int .i64 1))), (3, 1, (.c (.int .i64 0))), (4, 1, (.c (.int .i64 4))), (5, 1, (.c (.int .i64 3))), (6, 1, (.c (.int .i64 2)))]⟩,
  .op 2 ⟨some 13, none, .mov (.t 2)⟩,
  .op 3 ⟨some 14, none, .bin .rem (.t 13) (.c (.int .i64 7))⟩,
  .op 4 ⟨some 15, none, .ia 1 (.t 12) (.t 14)⟩,
  .op 5 ⟨some 16, none, .ld (.t 15)⟩,
  .al 6 1 ⟨some 17, none, .bsl 4 [(.int .i64 0), (.int .i64 0), (.int .i64 0), (.int .i64 0)] [(0, 1, (.c (.int .i64 0))), (1, 1, (.c (.int .i64 1))), (2, 1, (.c (.int .i64 2))), (3, 1, (.c (.int .i64 3)))]⟩,
  .op 7 ⟨some 18, none, .mov (.t 2)⟩,
  .op 8 ⟨some 19, none, .bin .rem (.t 18) (.c (.int .i64 4))⟩,
  .op 9 ⟨some 20, none, .ia 1 (.t 17) (.t 19)⟩,
  .op 10 ⟨some 21, none, .ld (.t 20)⟩,
  .op 0 ⟨some 11, none, .mov (.t 1)⟩,
  .op 11 ⟨some 22, none, .mov (.t 2)⟩,
  .op 12 ⟨some 23, none, .bin .mul (.t 22) (.c (.int .i64 41))⟩,
  .op 13 ⟨some 24, none, .bin .rem (.t 23) (.c (.int .i64 2110))⟩,
  .op 14 ⟨some 25, none, .conv .u32 (.t 24)⟩,
  .op 15 ⟨some 26, none, .mov (.t 2)⟩,
  .op 16 ⟨some 27, none, .bin .rem (.t 26) (.c (.int .i64 41))⟩,
  .op 17 ⟨some 28, none, .mov (.t 2)⟩,
  .op 18 ⟨some 29, none, .conv .u8 (.t 28)⟩,
  .op 19 ⟨some 30, none, .build [(.int .i64 0), (.int .i64 0), (.int .u32 0), (.int .i64 0), (.int .u8 0)] [(0, 1, (.t 16)), (1, 1, (.t 21)), (2, 1, (.t 25)), (3, 1, (.t 27)), (4, 1, (.t 29))]⟩,
  .al 20 2 ⟨some 31, none, .bsl 1 [(.int .i64 0), (.int .i64 0), (.int .u32 0), (.int .i64 0), (.int .u8 0)] [(0, 5, (.t 30))]⟩,
  .op 21 ⟨some 32, none, .app 5 40 (.t 11) (.t 31)⟩,
  .op 22 ⟨some 1, none, .mov (.t 32)⟩]))
  (.ops [⟨some 9, none, .mov (.t 2)⟩,
  ⟨some 10, none, .bin .add (.t 9) (.c (.int .i64 1))⟩,
  ⟨some 2, none, .mov (.t 10)⟩])
def c1_pianolalaw14_DiskNumbers : C :=
 .seq (.seq (.ops [⟨some 7, none, .mov (.t 2)⟩,
  ⟨some 8, none, .bin .lss (.t 7) (.c (.int .i64 78))⟩])
  (.cond (.t 8)
  (.skip)
  (.exit 0)))
  (c0_pianolalaw14_DiskNumbers)
def c2_pianolalaw14_DiskNumbers : C :=
 .seq (.block 3
  (.seq (.ops [⟨some 37, none, .mov (.t 3)⟩,
  ⟨some 38, none, .mks [(.int .u8 0)] 1 (.t 37) (.t 37)⟩,
  ⟨some 39, none, .mov (.t 1)⟩,
  ⟨some 40, none, .call n_pianolalaw14_play [(.t 38), (.t 39), (.c (.bool true))]⟩,
  ⟨some 41, none, .un .not (.t 40)⟩])
  (.cond (.t 41)
  (.seq (.ops [⟨some 0, none, .mov (.c (.bool false))⟩])
  (.ret))
  (.skip))))
  (.ops [⟨some 35, none, .mov (.t 3)⟩,
  ⟨some 36, none, .bin .add (.t 35) (.c (.int .i64 13))⟩,
  ⟨some 3, none, .mov (.t 36)⟩])
def c3_pianolalaw14_DiskNumbers : C :=
 .seq (.seq (.ops [⟨some 33, none, .mov (.t 3)⟩,
  ⟨some 34, none, .bin .lss (.t 33) (.c (.int .i64 200))⟩])
  (.cond (.t 34)
  (.skip)
  (.exit 2)))
  (c2_pianolalaw14_DiskNumbers)
def c4_pianolalaw14_DiskNumbers : C :=
 .seq (.ops [⟨some 48, none, .bsl 5 [(.int .u8 0), (.int .u8 0), (.int .u8 0), (.int .u8 0), (.int .u8 0)] [(0, 1, (.c (.int .u8 105))), (1, 1, (.c (.int .u8 109))), (2, 1, (.c (.int .u8 97))), (3, 1, (.c (.int .u8 103))), (4, 1, (.c (.int .u8 101)))]⟩,
  ⟨some 49, none, .ms (.t 48)⟩,
  ⟨some 50, none, .mov (.t 1)⟩,
  ⟨some 51, none, .call n_pianolalaw14_play [(.t 49), (.t 50), (.c (.bool false))]⟩,
  ⟨some 52, none, .mov (.t 51)⟩,
  ⟨some 53, some (52, true), .mov (.t 6)⟩,
  ⟨some 54, some (52, true), .eqn 0 true (.t 53)⟩,
  ⟨some 55, none, .pick (.t 52) (.t 54) (.c (.bool false))⟩,
  ⟨some 56, none, .mov (.t 55)⟩,
  ⟨some 57, some (56, true), .mov (.t 6)⟩,
  ⟨some 58, some (56, true), .call n_disk_Disk_Sectors [(.t 57)]⟩,
  ⟨some 59, some (56, true), .bin .eql (.t 58) (.c (.int .i64 64))⟩,
  ⟨some 60, none, .pick (.t 56) (.t 59) (.c (.bool false))⟩,
  ⟨some 61, none, .mov (.t 60)⟩,
  ⟨some 62, some (61, true), .call n_pianolalaw14_known []⟩,
  ⟨some 63, none, .pick (.t 61) (.t 62) (.c (.bool false))⟩,
  ⟨some 0, none, .mov (.t 63)⟩])
  (.ret)
def c5_pianolalaw14_DiskNumbers : C :=
 .seq (.ops [⟨some 42, none, .call n_wheel_New []⟩,
  ⟨some 43, none, .call n_ram_New [(.c (.int .i64 1))]⟩,
  ⟨some 4, none, .mov (.t 42)⟩,
  ⟨some 5, none, .mov (.t 43)⟩])
  (.seq (.ops [⟨some 44, none, .mov (.t 4)⟩,
  ⟨some 45, none, .mov (.t 5)⟩,
  ⟨some 46, none, .mks [(.int .u8 0)] 1 (.c (.int .i64 9999)) (.c (.int .i64 9999))⟩,
  ⟨some 47, none, .call n_disk_New [(.c (.int .i64 5)), (.t 44), (.t 45), (.t 46)]⟩,
  ⟨some 6, none, .mov (.t 47)⟩])
  (c4_pianolalaw14_DiskNumbers))
def c_pianolalaw14_DiskNumbers : C :=
 .seq (.ops [⟨some 0, none, .mov (.c (.bool false))⟩])
  (.seq (.ops [⟨some 1, none, .mov (.c (.slice none 0 0))⟩])
  (.seq (.seq (.ops [⟨some 2, none, .mov (.c (.int .i64 0))⟩])
  (.block 0
  (.loop c1_pianolalaw14_DiskNumbers)))
  (.seq (.seq (.ops [⟨some 3, none, .mov (.c (.int .i64 0))⟩])
  (.block 2
  (.loop c3_pianolalaw14_DiskNumbers)))
  (c5_pianolalaw14_DiskNumbers))))
def f_pianolalaw14_DiskNumbers : F := ⟨c_pianolalaw14_DiskNumbers, [.t 0], some []⟩
theorem h_pianolalaw14_DiskNumbers : compF Try.prog (compAny Try.prog) n_pianolalaw14_DiskNumbers = some (f_pianolalaw14_DiskNumbers.body, f_pianolalaw14_DiskNumbers.res) := by kernel_rfl
/- pianola/pianolalaw13.DmaMoves -/
def c0_pianolalaw13_DmaMoves : C :=
 .seq (.ops [⟨some 136, none, .mov (.t 20)⟩,
  ⟨some 137, none, .mov (.t 136)⟩,
  ⟨some 138, some (137, true), .mov (.t 22)⟩,
  ⟨some 139, some (137, true), .un .not (.t 138)⟩,
  ⟨some 140, none, .pick (.t 137) (.t 139) (.c (.bool false))⟩,
  ⟨some 141, none, .mov (.t 140)⟩,
  ⟨some 142, some (141, true), .mov (.t 23)⟩,
  ⟨some 143, some (141, true), .b2s (.t 142)⟩,
  ⟨some 144, some (141, true), .mov (.t 15)⟩,
  ⟨some 145, some (141, true), .b2s (.t 144)⟩,
  ⟨some 146, some (141, true), .bin .eql (.t 143) (.t 145)⟩,
  ⟨some 147, none, .pick (.t 141) (.t 146) (.c (.bool false))⟩,
  ⟨some 148, none, .mov (.t 147)⟩,
  ⟨some 149, some (148, true), .mov (.t 25)⟩,
  ⟨some 150, some (148, true), .bin .eql (.t 149) (.c (.int .u32 2))⟩,
  ⟨some 151, none, .pick (.t 148) (.t 150) (.c (.bool false))⟩,
  ⟨some 152, none, .mov (.t 151)⟩,
  ⟨some 153, some (152, true), .call n_pianolalaw13_known []⟩,
  ⟨some 154, none, .pick (.t 152) (.t 153) (.c (.bool false))⟩,
  ⟨some 8, none, .mov (.t 154)⟩])
  (.ret)
def c1_pianolalaw13_DmaMoves : C :=
 .seq (.ops [⟨some 127, none, .mov (.t 10)⟩,
  ⟨some 128, none, .call n_ram_Ram_Bytes [(.t 127), (.c (.int .u32 0)), (.c (.int .i64 1024))]⟩,
  ⟨some 126, none, .mov (.t 128)⟩,
  ⟨some 129, none, .ext (.t 126) 0⟩,
  ⟨some 130, none, .ext (.t 126) 1⟩,
  ⟨some 23, none, .mov (.t 129)⟩,
  ⟨some 24, none, .mov (.t 130)⟩])
  (.seq (.ops [⟨some 132, none, .mov (.t 11)⟩,
  ⟨some 133, none, .call n_dma_Dma_Read [(.t 132), (.c (.int .u32 16))]⟩,
  ⟨some 131, none, .mov (.t 133)⟩,
  ⟨some 134, none, .ext (.t 131) 0⟩,
  ⟨some 135, none, .ext (.t 131) 1⟩,
  ⟨some 25, none, .mov (.t 134)⟩,
  ⟨some 26, none, .mov (.t 135)⟩])
  (c0_pianolalaw13_DmaMoves))
def c2_pianolalaw13_DmaMoves : C :=
 .seq (.ops [⟨some 118, none, .mov (.t 9)⟩,
  ⟨some 119, none, .call n_wheel_Wheel_Take [(.t 118), (.c (.int .i64 1073741824))]⟩,
  ⟨some 117, none, .mov (.t 119)⟩,
  ⟨some 120, none, .ext (.t 117) 0⟩,
  ⟨some 121, none, .ext (.t 117) 1⟩,
  ⟨some 21, none, .new [(.int .i64 0), (.int .i64 0), (.int .i64 0)]⟩,
  ⟨none, none, .stn 3 (.t 21) (.t 120)⟩,
  ⟨some 22, none, .mov (.t 121)⟩])
  (.seq (.ops [⟨some 122, none, .mov (.t 11)⟩,
  ⟨some 123, none, .fa 0 (.t 19)⟩,
  ⟨some 124, none, .ld (.t 123)⟩,
  ⟨some 125, none, .call n_dma_Dma_Fire [(.t 122), (.t 124)]⟩])
  (c1_pianolalaw13_DmaMoves))
def c3_pianolalaw13_DmaMoves : C :=
 .seq (.ops [⟨some 110, none, .mov (.t 9)⟩,
  ⟨some 111, none, .mov (.t 14)⟩,
  ⟨some 112, none, .bin .quo (.t 111) (.c (.int .i64 4))⟩,
  ⟨some 113, none, .bin .add (.t 112) (.c (.int .i64 1))⟩,
  ⟨some 114, none, .call n_wheel_Wheel_Take [(.t 110), (.t 113)]⟩,
  ⟨some 109, none, .mov (.t 114)⟩,
  ⟨some 115, none, .ext (.t 109) 0⟩,
  ⟨some 116, none, .ext (.t 109) 1⟩,
  ⟨some 19, none, .new [(.int .i64 0), (.int .i64 0), (.int .i64 0)]⟩,
  ⟨none, none, .stn 3 (.t 19) (.t 115)⟩,
  ⟨some 20, none, .mov (.t 116)⟩])
  (c2_pianolalaw13_DmaMoves)
def c4_pianolalaw13_DmaMoves : C :=
 .seq (.seq (.ops [⟨some 87, none, .mov (.t 11)⟩,
  ⟨some 88, none, .mov (.t 12)⟩,
  ⟨some 89, none, .call n_dma_Dma_Write [(.t 87), (.c (.int .u32 0)), (.t 88), (.c (.int .i64 0))]⟩,
  ⟨some 90, none, .un .not (.t 89)⟩,
  ⟨some 91, none, .mov (.t 90)⟩,
  ⟨some 92, some (91, false), .mov (.t 11)⟩,
  ⟨some 93, some (91, false), .mov (.t 13)⟩,
  ⟨some 94, some (91, false), .call n_dma_Dma_Write [(.t 92), (.c (.int .u32 4)), (.t 93), (.c (.int .i64 0))]⟩,
  ⟨some 95, some (91, false), .un .not (.t 94)⟩,
  ⟨some 96, none, .pick (.t 91) (.c (.bool true)) (.t 95)⟩,
  ⟨some 97, none, .mov (.t 96)⟩,
  ⟨some 98, some (97, false), .mov (.t 11)⟩,
  ⟨some 99, some (97, false), .mov (.t 14)⟩,
  ⟨some 100, some (97, false), .conv .u32 (.t 99)⟩,
  ⟨some 101, some (97, false), .call n_dma_Dma_Write [(.t 98), (.c (.int .u32 8)), (.t 100), (.c (.int .i64 0))]⟩,
  ⟨some 102, some (97, false), .un .not (.t 101)⟩,
  ⟨some 103, none, .pick (.t 97) (.c (.bool true)) (.t 102)⟩,
  ⟨some 104, none, .mov (.t 103)⟩,
  ⟨some 105, some (104, false), .mov (.t 11)⟩,
  ⟨some 106, some (104, false), .call n_dma_Dma_Write [(.t 105), (.c (.int .u32 12)), (.c (.int .u32 1)), (.c (.int .i64 0))]⟩,
  ⟨some 107, some (104, false), .un .not (.t 106)⟩,
  ⟨some 108, none, .pick (.t 104) (.c (.bool true)) (.t 107)⟩])
  (.cond (.t 108)
  (.seq (.ops [⟨some 8, none, .mov (.c (.bool false))⟩])
  (.ret))
  (.skip)))
  (c3_pianolalaw13_DmaMoves)
def c5_pianolalaw13_DmaMoves : C :=
 .seq (.seq (.ops [⟨some 73, none, .mov (.t 15)⟩,
  ⟨some 74, none, .len 1 (.t 73)⟩,
  ⟨some 75, none, .bin .neq (.t 74) (.c (.int .i64 1024))⟩,
  ⟨some 76, none, .mov (.t 75)⟩,
  ⟨some 77, some (76, false), .mov (.t 17)⟩,
  ⟨some 78, some (76, false), .len 1 (.t 77)⟩,
  ⟨some 79, some (76, false), .mov (.t 14)⟩,
  ⟨some 80, some (76, false), .bin .neq (.t 78) (.t 79)⟩,
  ⟨some 81, none, .pick (.t 76) (.c (.bool true)) (.t 80)⟩])
  (.cond (.t 81)
  (.seq (.ops [⟨some 8, none, .mov (.c (.bool false))⟩])
  (.ret))
  (.skip)))
  (.seq (.ops [⟨some 82, none, .mov (.t 15)⟩,
  ⟨some 83, none, .mov (.t 13)⟩,
  ⟨some 84, none, .sl 1 (.t 82) (some (.t 83)) none none⟩,
  ⟨some 85, none, .mov (.t 17)⟩,
  ⟨some 86, none, .cpy 1 (.t 84) (.t 85)⟩])
  (c4_pianolalaw13_DmaMoves))
def c6_pianolalaw13_DmaMoves : C :=
 .seq (.ops [⟨some 67, none, .mov (.t 10)⟩,
  ⟨some 68, none, .mov (.t 12)⟩,
  ⟨some 69, none, .mov (.t 14)⟩,
  ⟨some 70, none, .call n_ram_Ram_Bytes [(.t 67), (.t 68), (.t 69)]⟩,
  ⟨some 66, none, .mov (.t 70)⟩,
  ⟨some 71, none, .ext (.t 66) 0⟩,
  ⟨some 72, none, .ext (.t 66) 1⟩,
  ⟨some 17, none, .mov (.t 71)⟩,
  ⟨some 18, none, .mov (.t 72)⟩])
  (c5_pianolalaw13_DmaMoves)
def c7_pianolalaw13_DmaMoves : C :=
 .seq (.ops [⟨some 54, none, .mov (.t 3)⟩,
  ⟨some 55, none, .mov (.t 12)⟩,
  ⟨some 56, none, .mov (.t 13)⟩,
  ⟨some 57, none, .mx (.t 55) (.t 56)⟩,
  ⟨some 58, none, .bin .sub (.c (.int .u32 1024)) (.t 57)⟩,
  ⟨some 59, none, .conv .i64 (.t 58)⟩,
  ⟨some 60, none, .call n_pianolabook_Within [(.t 54), (.c (.int .i64 0)), (.t 59)]⟩,
  ⟨some 14, none, .mov (.t 60)⟩])
  (.seq (.ops [⟨some 62, none, .mov (.t 10)⟩,
  ⟨some 63, none, .call n_ram_Ram_Bytes [(.t 62), (.c (.int .u32 0)), (.c (.int .i64 1024))]⟩,
  ⟨some 61, none, .mov (.t 63)⟩,
  ⟨some 64, none, .ext (.t 61) 0⟩,
  ⟨some 65, none, .ext (.t 61) 1⟩,
  ⟨some 15, none, .mov (.t 64)⟩,
  ⟨some 16, none, .mov (.t 65)⟩])
  (c6_pianolalaw13_DmaMoves))
def c8_pianolalaw13_DmaMoves : C :=
 .seq (.ops [⟨some 47, none, .mov (.t 10)⟩,
  ⟨some 48, none, .mov (.t 0)⟩,
  ⟨some 49, none, .call n_ram_Ram_Put [(.t 47), (.c (.int .u32 0)), (.t 48)]⟩])
  (.seq (.ops [⟨some 50, none, .mov (.t 1)⟩,
  ⟨some 51, none, .bin .rem (.t 50) (.c (.int .u32 1000))⟩,
  ⟨some 52, none, .mov (.t 2)⟩,
  ⟨some 53, none, .bin .rem (.t 52) (.c (.int .u32 1000))⟩,
  ⟨some 12, none, .mov (.t 51)⟩,
  ⟨some 13, none, .mov (.t 53)⟩])
  (c7_pianolalaw13_DmaMoves))
def c9_pianolalaw13_DmaMoves : C :=
 .seq (.seq (.ops [⟨some 42, none, .mov (.t 0)⟩,
  ⟨some 43, none, .len 1 (.t 42)⟩,
  ⟨some 44, none, .bin .gtr (.t 43) (.c (.int .i64 1024))⟩])
  (.cond (.t 44)
  (.ops [⟨some 45, none, .mov (.t 0)⟩,
  ⟨some 46, none, .sl 1 (.t 45) none (some (.c (.int .i64 1024))) none⟩,
  ⟨some 0, none, .mov (.t 46)⟩])
  (.skip)))
  (c8_pianolalaw13_DmaMoves)
def c10_pianolalaw13_DmaMoves : C :=
 .seq (.seq (.ops [⟨some 32, none, .mov (.t 9)⟩,
  ⟨some 33, none, .eqn 0 false (.t 32)⟩,
  ⟨some 34, none, .mov (.t 33)⟩,
  ⟨some 35, some (34, false), .mov (.t 10)⟩,
  ⟨some 36, some (34, false), .eqn 0 false (.t 35)⟩,
  ⟨some 37, none, .pick (.t 34) (.c (.bool true)) (.t 36)⟩,
  ⟨some 38, none, .mov (.t 37)⟩,
  ⟨some 39, some (38, false), .mov (.t 11)⟩,
  ⟨some 40, some (38, false), .eqn 0 false (.t 39)⟩,
  ⟨some 41, none, .pick (.t 38) (.c (.bool true)) (.t 40)⟩])
  (.cond (.t 41)
  (.seq (.ops [⟨some 8, none, .mov (.c (.bool false))⟩])
  (.ret))
  (.skip)))
  (c9_pianolalaw13_DmaMoves)
def c11_pianolalaw13_DmaMoves : C :=
 .seq (.ops [⟨some 27, none, .call n_wheel_New []⟩,
  ⟨some 28, none, .call n_ram_New [(.c (.int .i64 1))]⟩,
  ⟨some 9, none, .mov (.t 27)⟩,
  ⟨some 10, none, .mov (.t 28)⟩])
  (.seq (.ops [⟨some 29, none, .mov (.t 9)⟩,
  ⟨some 30, none, .mov (.t 10)⟩,
  ⟨some 31, none, .call n_dma_New [(.c (.int .i64 4)), (.t 29), (.t 30)]⟩,
  ⟨some 11, none, .mov (.t 31)⟩])
  (c10_pianolalaw13_DmaMoves))
def c_pianolalaw13_DmaMoves : C :=
 .seq (.ops [⟨some 8, none, .mov (.c (.bool false))⟩])
  (c11_pianolalaw13_DmaMoves)
def f_pianolalaw13_DmaMoves : F := ⟨c_pianolalaw13_DmaMoves, [.t 8], some []⟩
theorem h_pianolalaw13_DmaMoves : compF Try.prog (compAny Try.prog) n_pianolalaw13_DmaMoves = some (f_pianolalaw13_DmaMoves.body, f_pianolalaw13_DmaMoves.res) := by kernel_rfl
/- pianola/pianolalaw13.DmaNumbers -/
def c0_pianolalaw13_DmaNumbers : C :=
 .seq (.block 1
  (.any 3 [.al 1 0 ⟨some 13, none, .bsl 8 [(.int .i64 0), (.int .i64 0), (.int .i64 0), (.int .i64 0), (.int .i64 0), (.int .i64 0), (.int .i64 0), (.int .i64 0)] [(0, 1, (.c (.int .i64 5))), (1, 1, (.c (.int .i64 0))), (2, 1, (.c (.int .i64 1))), (3, 1, (.c (.int .i64 0))), (4, 1, (.c (.int .i64 1))), (5, 1, (.c (.int .i64 4))), (6, 1, (.c (.int .i64 3))), (7, 1, (.c (.int .i64 2)))]⟩,
  .op 2 ⟨some 14, none, .mov (.t 2)⟩,
  .op 3 ⟨some 15, none, .bin .rem (.t 14) (.c (.int .i64 8))⟩,
  .op 4 ⟨some 16, none, .ia 1 (.t 13) (.t 15)⟩,
  .op 5 ⟨some 17, none, .ld (.t 16)⟩,
  .al 6 1 ⟨some 18, none, .bsl 5 [(.int .i64 0), (.int .i64 0), (.int .i64 0), (.int .i64 0), (.int .i64 0)] [(0, 1, (.c (.int .i64 0))), (1, 1, (.c (.int .i64 1))), (2, 1, (.c (.int .i64 2))), (3, 1, (.c (.int .i64 3))), (4, 1, (.c (.int .i64 4)))]⟩,
  .op 7 ⟨some 19, none, .mov (.t 2)⟩,
  .op 8 ⟨some 20, none, .bin .rem (.t 19) (.c (.int .i64 5))⟩,
  .op 9 ⟨some 21, none, .ia 1 (.t 18) (.t 20)⟩,
  .op 10 ⟨some 22, none, .ld (.t 21)⟩,
  .op 0 ⟨some 12, none, .mov (.t 1)⟩,
  .op 11 ⟨some 23, none, .mov (.t 2)⟩,
  .op 12 ⟨some 24, none, .bin .mul (.t 23) (.c (.int .i64 53))⟩,
  .op 13 ⟨some 25, none, .bin .rem (.t 24) (.c (.int .i64 2100))⟩,
  .op 14 ⟨some 26, none, .conv .u32 (.t 25)⟩,
  .op 15 ⟨some 27, none, .mov (.t 2)⟩,
  .op 16 ⟨some 28, none, .bin .mul (.t 27) (.c (.int .i64 30))⟩,
  .op 17 ⟨some 29, none, .bin .rem (.t 28) (.c (.int .i64 1100))⟩,
  .op 18 ⟨some 30, none, .mov (.t 2)⟩,
  .op 19 ⟨some 31, none, .conv .u8 (.t 30)⟩,
  .op 20 ⟨some 32, none, .build [(.int .i64 0), (.int .i64 0), (.int .u32 0), (.int .i64 0), (.int .u8 0)] [(0, 1, (.t 17)), (1, 1, (.t 22)), (2, 1, (.t 26)), (3, 1, (.t 29)), (4, 1, (.t 31))]⟩,
  .al 21 2 ⟨some 33, none, .bsl 1 [(.int .i64 0), (.int .i64 0), (.int .u32 0), (.int .i64 0), (.int .u8 0)] [(0, 5, (.t 32))]⟩,
  .op 22 ⟨some 34, none, .app 5 40 (.t 12) (.t 33)⟩,
  .op 23 ⟨some 1, none, .mov (.t 34)⟩]))
  (.ops [⟨some 10, none, .mov (.t 2)⟩,
  ⟨some 11, none, .bin .add (.t 10) (.c (.int .i64 1))⟩,
  ⟨some 2, none, .mov (.t 11)⟩])
def c1_pianolalaw13_DmaNumbers : C :=
 .seq (.seq (.ops [⟨some 8, none, .mov (.t 2)⟩,
  ⟨some 9, none, .bin .lss (.t 8) (.c (.int .i64 80))⟩])
  (.cond (.t 9)
  (.skip)
  (.exit 0)))
  (c0_pianolalaw13_DmaNumbers)
def c2_pianolalaw13_DmaNumbers : C :=
 .seq (.block 5
  (.ops [⟨some 53, none, .mov (.t 5)⟩,
  ⟨some 54, none, .mov (.t 6)⟩,
  ⟨some 55, none, .conv .u32 (.t 54)⟩,
  ⟨some 56, none, .mov (.t 6)⟩,
  ⟨some 57, none, .bin .add (.t 56) (.c (.int .i64 1))⟩,
  ⟨some 58, none, .conv .u8 (.t 57)⟩,
  ⟨some 59, none, .build [(.int .i64 0), (.int .i64 0), (.int .u32 0), (.int .i64 0), (.int .u8 0)] [(0, 1, (.c (.int .i64 5))), (2, 1, (.t 55)), (4, 1, (.t 58))]⟩,
  ⟨some 60, none, .bsl 1 [(.int .i64 0), (.int .i64 0), (.int .u32 0), (.int .i64 0), (.int .u8 0)] [(0, 5, (.t 59))]⟩,
  ⟨some 61, none, .app 5 40 (.t 53) (.t 60)⟩,
  ⟨some 5, none, .mov (.t 61)⟩]))
  (.ops [⟨some 51, none, .mov (.t 6)⟩,
  ⟨some 52, none, .bin .add (.t 51) (.c (.int .i64 1))⟩,
  ⟨some 6, none, .mov (.t 52)⟩])
def c3_pianolalaw13_DmaNumbers : C :=
 .seq (.seq (.ops [⟨some 49, none, .mov (.t 6)⟩,
  ⟨some 50, none, .bin .lss (.t 49) (.c (.int .i64 40))⟩])
  (.cond (.t 50)
  (.skip)
  (.exit 4)))
  (c2_pianolalaw13_DmaNumbers)
def c4_pianolalaw13_DmaNumbers : C :=
 .seq (.block 7
  (.ops [⟨some 66, none, .mov (.t 5)⟩,
  ⟨some 67, none, .mov (.t 7)⟩,
  ⟨some 68, none, .mov (.t 7)⟩,
  ⟨some 69, none, .iaa 3 1 (.t 4) (.t 68)⟩,
  ⟨some 70, none, .ld (.t 69)⟩,
  ⟨some 71, none, .build [(.int .i64 0), (.int .i64 0), (.int .u32 0), (.int .i64 0), (.int .u8 0)] [(1, 1, (.t 67)), (2, 1, (.t 70))]⟩,
  ⟨some 72, none, .bsl 1 [(.int .i64 0), (.int .i64 0), (.int .u32 0), (.int .i64 0), (.int .u8 0)] [(0, 5, (.t 71))]⟩,
  ⟨some 73, none, .app 5 40 (.t 66) (.t 72)⟩,
  ⟨some 5, none, .mov (.t 73)⟩]))
  (.ops [⟨some 64, none, .mov (.t 7)⟩,
  ⟨some 65, none, .bin .add (.t 64) (.c (.int .i64 1))⟩,
  ⟨some 7, none, .mov (.t 65)⟩])
def c5_pianolalaw13_DmaNumbers : C :=
 .seq (.seq (.ops [⟨some 62, none, .mov (.t 7)⟩,
  ⟨some 63, none, .bin .lss (.t 62) (.c (.int .i64 3))⟩])
  (.cond (.t 63)
  (.skip)
  (.exit 6)))
  (c4_pianolalaw13_DmaNumbers)
def c6_pianolalaw13_DmaNumbers : C :=
 .seq (.ops [⟨some 74, none, .mov (.t 5)⟩,
  ⟨some 75, none, .build [(.int .i64 0), (.int .i64 0), (.int .u32 0), (.int .i64 0), (.int .u8 0)] [(1, 1, (.c (.int .i64 3))), (2, 1, (.c (.int .u32 1)))]⟩,
  ⟨some 76, none, .build [(.int .i64 0), (.int .i64 0), (.int .u32 0), (.int .i64 0), (.int .u8 0)] [(1, 1, (.c (.int .i64 3))), (2, 1, (.c (.int .u32 1)))]⟩,
  ⟨some 77, none, .build [(.int .i64 0), (.int .i64 0), (.int .u32 0), (.int .i64 0), (.int .u8 0)] [(0, 1, (.c (.int .i64 4))), (3, 1, (.c (.int .i64 1100)))]⟩,
  ⟨some 78, none, .build [(.int .i64 0), (.int .i64 0), (.int .u32 0), (.int .i64 0), (.int .u8 0)] [(0, 1, (.c (.int .i64 3)))]⟩,
  ⟨some 79, none, .build [(.int .i64 0), (.int .i64 0), (.int .u32 0), (.int .i64 0), (.int .u8 0)] [(0, 1, (.c (.int .i64 2))), (1, 1, (.c (.int .i64 4)))]⟩,
  ⟨some 80, none, .build [(.int .i64 0), (.int .i64 0), (.int .u32 0), (.int .i64 0), (.int .u8 0)] [(1, 1, (.c (.int .i64 4))), (2, 1, (.c (.int .u32 2)))]⟩,
  ⟨some 81, none, .build [(.int .i64 0), (.int .i64 0), (.int .u32 0), (.int .i64 0), (.int .u8 0)] [(0, 1, (.c (.int .i64 2))), (1, 1, (.c (.int .i64 4)))]⟩,
  ⟨some 82, none, .build [(.int .i64 0), (.int .i64 0), (.int .u32 0), (.int .i64 0), (.int .u8 0)] [(1, 1, (.c (.int .i64 4))), (2, 1, (.c (.int .u32 6)))]⟩,
  ⟨some 83, none, .bsl 8 [(.int .i64 0), (.int .i64 0), (.int .u32 0), (.int .i64 0), (.int .u8 0), (.int .i64 0), (.int .i64 0), (.int .u32 0), (.int .i64 0), (.int .u8 0), (.int .i64 0), (.int .i64 0), (.int .u32 0), (.int .i64 0), (.int .u8 0), (.int .i64 0), (.int .i64 0), (.int .u32 0), (.int .i64 0), (.int .u8 0), (.int .i64 0), (.int .i64 0), (.int .u32 0), (.int .i64 0), (.int .u8 0), (.int .i64 0), (.int .i64 0), (.int .u32 0), (.int .i64 0), (.int .u8 0), (.int .i64 0), (.int .i64 0), (.int .u32 0), (.int .i64 0), (.int .u8 0), (.int .i64 0), (.int .i64 0), (.int .u32 0), (.int .i64 0), (.int .u8 0)] [(0, 5, (.t 75)), (5, 5, (.t 76)), (10, 5, (.t 77)), (15, 5, (.t 78)), (20, 5, (.t 79)), (25, 5, (.t 80)), (30, 5, (.t 81)), (35, 5, (.t 82))]⟩,
  ⟨some 84, none, .app 5 40 (.t 74) (.t 83)⟩,
  ⟨some 5, none, .mov (.t 84)⟩])
  (.seq (.ops [⟨some 85, none, .mov (.t 5)⟩,
  ⟨some 86, none, .call n_pianolalaw13_play [(.t 85), (.c (.bool false))]⟩,
  ⟨some 87, none, .un .not (.t 86)⟩])
  (.cond (.t 87)
  (.seq (.ops [⟨some 0, none, .mov (.c (.bool false))⟩])
  (.ret))
  (.skip)))
def c7_pianolalaw13_DmaNumbers : C :=
 .seq (.block 3
  (.seq (.ops [⟨some 47, none, .ia 3 (.t 43) (.t 45)⟩,
  ⟨some 48, none, .ldn 3 (.t 47)⟩,
  ⟨some 4, none, .new [(.int .u32 0), (.int .u32 0), (.int .u32 0)]⟩,
  ⟨none, none, .stn 3 (.t 4) (.t 48)⟩])
  (.seq (.ops [⟨some 5, none, .mov (.c (.slice none 0 0))⟩])
  (.seq (.seq (.ops [⟨some 6, none, .mov (.c (.int .i64 0))⟩])
  (.block 4
  (.loop c3_pianolalaw13_DmaNumbers)))
  (.seq (.seq (.ops [⟨some 7, none, .mov (.c (.int .i64 0))⟩])
  (.block 6
  (.loop c5_pianolalaw13_DmaNumbers)))
  (c6_pianolalaw13_DmaNumbers))))))
  (.ops [⟨some 88, none, .bin .add (.t 45) (.c (.int .i64 1))⟩,
  ⟨some 45, none, .mov (.t 88)⟩])
def c8_pianolalaw13_DmaNumbers : C :=
 .seq (.ops [⟨some 46, none, .bin .lss (.t 45) (.t 44)⟩])
  (.seq (.cond (.t 46)
  (.skip)
  (.exit 2))
  (c7_pianolalaw13_DmaNumbers))
def c9_pianolalaw13_DmaNumbers : C :=
 .seq (.ops [⟨some 89, none, .mov (.t 1)⟩,
  ⟨some 90, none, .call n_pianolalaw13_play [(.t 89), (.c (.bool false))]⟩,
  ⟨some 91, none, .mov (.t 90)⟩,
  ⟨some 92, some (91, true), .mov (.t 1)⟩,
  ⟨some 93, some (91, true), .call n_pianolalaw13_play [(.t 92), (.c (.bool true))]⟩,
  ⟨some 94, none, .pick (.t 91) (.t 93) (.c (.bool false))⟩,
  ⟨some 95, none, .mov (.t 94)⟩,
  ⟨some 96, some (95, true), .call n_pianolalaw13_known []⟩,
  ⟨some 97, none, .pick (.t 95) (.t 96) (.c (.bool false))⟩,
  ⟨some 0, none, .mov (.t 97)⟩])
  (.ret)
def c10_pianolalaw13_DmaNumbers : C :=
 .seq (.seq (.ops [⟨some 35, none, .build [(.int .u32 0), (.int .u32 0), (.int .u32 0)] [(0, 1, (.c (.int .u32 0))), (1, 1, (.c (.int .u32 10))), (2, 1, (.c (.int .u32 30)))]⟩,
  ⟨some 36, none, .build [(.int .u32 0), (.int .u32 0), (.int .u32 0)] [(0, 1, (.c (.int .u32 10))), (1, 1, (.c (.int .u32 0))), (2, 1, (.c (.int .u32 30)))]⟩,
  ⟨some 37, none, .build [(.int .u32 0), (.int .u32 0), (.int .u32 0)] [(0, 1, (.c (.int .u32 2040))), (1, 1, (.c (.int .u32 0))), (2, 1, (.c (.int .u32 8)))]⟩,
  ⟨some 38, none, .build [(.int .u32 0), (.int .u32 0), (.int .u32 0)] [(0, 1, (.c (.int .u32 2040))), (1, 1, (.c (.int .u32 0))), (2, 1, (.c (.int .u32 9)))]⟩,
  ⟨some 39, none, .build [(.int .u32 0), (.int .u32 0), (.int .u32 0)] [(0, 1, (.c (.int .u32 0))), (1, 1, (.c (.int .u32 2040))), (2, 1, (.c (.int .u32 9)))]⟩,
  ⟨some 40, none, .build [(.int .u32 0), (.int .u32 0), (.int .u32 0)] [(0, 1, (.c (.int .u32 0))), (1, 1, (.c (.int .u32 0))), (2, 1, (.c (.int .u32 5000)))]⟩,
  ⟨some 41, none, .build [(.int .u32 0), (.int .u32 0), (.int .u32 0)] [(0, 1, (.c (.int .u32 4294967280))), (1, 1, (.c (.int .u32 0))), (2, 1, (.c (.int .u32 4)))]⟩,
  ⟨some 42, none, .build [(.int .u32 0), (.int .u32 0), (.int .u32 0)] [(0, 1, (.c (.int .u32 5))), (1, 1, (.c (.int .u32 5))), (2, 1, (.c (.int .u32 0)))]⟩,
  ⟨some 43, none, .bsl 8 (List.replicate 24 (.int .u32 0)) [(0, 3, (.t 35)), (3, 3, (.t 36)), (6, 3, (.t 37)), (9, 3, (.t 38)), (12, 3, (.t 39)), (15, 3, (.t 40)), (18, 3, (.t 41)), (21, 3, (.t 42))]⟩,
  ⟨some 44, none, .len 1 (.t 43)⟩,
  ⟨some 45, none, .mov (.c (.int .i64 0))⟩])
  (.block 2
  (.loop c8_pianolalaw13_DmaNumbers)))
  (c9_pianolalaw13_DmaNumbers)
def c_pianolalaw13_DmaNumbers : C :=
 .seq (.ops [⟨some 0, none, .mov (.c (.bool false))⟩])
  (.seq (.ops [⟨some 1, none, .mov (.c (.slice none 0 0))⟩])
  (.seq (.seq (.ops [⟨some 2, none, .mov (.c (.int .i64 0))⟩])
  (.block 0
  (.loop c1_pianolalaw13_DmaNumbers)))
  (c10_pianolalaw13_DmaNumbers)))
def f_pianolalaw13_DmaNumbers : F := ⟨c_pianolalaw13_DmaNumbers, [.t 0], some []⟩
theorem h_pianolalaw13_DmaNumbers : compF Try.prog (compAny Try.prog) n_pianolalaw13_DmaNumbers = some (f_pianolalaw13_DmaNumbers.body, f_pianolalaw13_DmaNumbers.res) := by kernel_rfl
/- pianola/pianolalaw15.BusTimes -/
def c0_pianolalaw15_BusTimes : C :=
 .seq (.any 0 [.op 0 ⟨some 122, none, .mov (.t 16)⟩,
  .op 1 ⟨some 123, none, .un .not (.t 122)⟩,
  .op 2 ⟨some 124, none, .mov (.t 123)⟩,
  .op 3 ⟨some 125, some (124, false), .mov (.t 15)⟩,
  .op 4 ⟨some 126, some (124, false), .mov (.t 11)⟩,
  .op 5 ⟨some 127, some (124, false), .mov (.t 8)⟩,
  .op 6 ⟨some 128, some (124, false), .bin .quo (.t 126) (.t 127)⟩,
  .op 7 ⟨some 129, some (124, false), .bin .add (.t 128) (.c (.int .i64 1))⟩,
  .op 8 ⟨some 130, some (124, false), .mov (.t 8)⟩,
  .op 9 ⟨some 131, some (124, false), .bin .mul (.t 129) (.t 130)⟩,
  .op 10 ⟨some 132, some (124, false), .mov (.t 11)⟩,
  .op 11 ⟨some 133, some (124, false), .mov (.t 9)⟩,
  .op 12 ⟨some 134, some (124, false), .bin .quo (.t 132) (.t 133)⟩,
  .op 13 ⟨some 135, some (124, false), .bin .add (.t 134) (.c (.int .i64 1))⟩,
  .op 14 ⟨some 136, some (124, false), .mov (.t 9)⟩,
  .op 15 ⟨some 137, some (124, false), .bin .mul (.t 135) (.t 136)⟩,
  .op 16 ⟨some 138, some (124, false), .mn (.t 131) (.t 137)⟩,
  .op 17 ⟨some 139, some (124, false), .bin .neq (.t 125) (.t 138)⟩,
  .op 18 ⟨some 140, none, .pick (.t 124) (.c (.bool true)) (.t 139)⟩])
  (.cond (.t 140)
  (.seq (.ops [⟨some 6, none, .mov (.c (.bool false))⟩])
  (.ret))
  (.skip))
def c1_pianolalaw15_BusTimes : C :=
 .seq (.seq (.any 0 [.op 0 ⟨some 90, none, .mov (.t 14)⟩,
  .op 1 ⟨some 91, none, .mov (.t 11)⟩,
  .op 2 ⟨some 92, none, .mov (.t 8)⟩,
  .op 3 ⟨some 93, none, .bin .quo (.t 91) (.t 92)⟩,
  .op 4 ⟨some 94, none, .mov (.t 13)⟩,
  .op 5 ⟨some 95, none, .mov (.t 8)⟩,
  .op 6 ⟨some 96, none, .bin .quo (.t 94) (.t 95)⟩,
  .op 7 ⟨some 97, none, .bin .sub (.t 93) (.t 96)⟩,
  .op 8 ⟨some 98, none, .mov (.t 11)⟩,
  .op 9 ⟨some 99, none, .mov (.t 9)⟩,
  .op 10 ⟨some 100, none, .bin .quo (.t 98) (.t 99)⟩,
  .op 11 ⟨some 101, none, .bin .add (.t 97) (.t 100)⟩,
  .op 12 ⟨some 102, none, .mov (.t 13)⟩,
  .op 13 ⟨some 103, none, .mov (.t 9)⟩,
  .op 14 ⟨some 104, none, .bin .quo (.t 102) (.t 103)⟩,
  .op 15 ⟨some 105, none, .bin .sub (.t 101) (.t 104)⟩,
  .op 16 ⟨some 106, none, .bin .neq (.t 90) (.t 105)⟩,
  .op 17 ⟨some 107, none, .mov (.t 106)⟩,
  .op 18 ⟨some 108, some (107, false), .mov (.t 7)⟩,
  .op 19 ⟨some 109, some (107, false), .call n_bus_Bus_Raised [(.t 108)]⟩,
  .op 20 ⟨some 110, some (107, false), .mov (.t 11)⟩,
  .op 21 ⟨some 111, some (107, false), .mov (.t 8)⟩,
  .op 22 ⟨some 112, some (107, false), .mov (.t 9)⟩,
  .op 23 ⟨some 113, some (107, false), .mn (.t 111) (.t 112)⟩,
  .op 24 ⟨some 114, some (107, false), .bin .geq (.t 110) (.t 113)⟩,
  .op 25 ⟨some 115, some (107, false), .eqb true (.t 109) (.t 114)⟩,
  .op 26 ⟨some 116, none, .pick (.t 107) (.c (.bool true)) (.t 115)⟩])
  (.cond (.t 116)
  (.seq (.ops [⟨some 6, none, .mov (.c (.bool false))⟩])
  (.ret))
  (.skip)))
  (.seq (.ops [⟨some 118, none, .mov (.t 7)⟩,
  ⟨some 119, none, .call n_bus_Bus_Next [(.t 118)]⟩,
  ⟨some 117, none, .mov (.t 119)⟩,
  ⟨some 120, none, .ext (.t 117) 0⟩,
  ⟨some 121, none, .ext (.t 117) 1⟩,
  ⟨some 15, none, .mov (.t 120)⟩,
  ⟨some 16, none, .mov (.t 121)⟩])
  (c0_pianolalaw15_BusTimes))
def c2_pianolalaw15_BusTimes : C :=
 .seq (.ops [⟨some 78, none, .mov (.t 11)⟩,
  ⟨some 79, none, .mov (.t 2)⟩,
  ⟨some 80, none, .mov (.t 12)⟩,
  ⟨some 81, none, .ia 1 (.t 79) (.t 80)⟩,
  ⟨some 82, none, .ld (.t 81)⟩,
  ⟨some 83, none, .bin .rem (.t 82) (.c (.int .i64 60))⟩,
  ⟨some 84, none, .bin .add (.t 83) (.c (.int .i64 60))⟩,
  ⟨some 85, none, .bin .rem (.t 84) (.c (.int .i64 60))⟩,
  ⟨some 86, none, .bin .add (.t 78) (.t 85)⟩,
  ⟨some 11, none, .mov (.t 86)⟩])
  (.seq (.ops [⟨some 87, none, .mov (.t 7)⟩,
  ⟨some 88, none, .mov (.t 11)⟩,
  ⟨some 89, none, .call n_bus_Bus_Fire [(.t 87), (.t 88)]⟩,
  ⟨some 14, none, .mov (.t 89)⟩])
  (c1_pianolalaw15_BusTimes))
def c3_pianolalaw15_BusTimes : C :=
 .seq (.seq (.ops [⟨some 67, none, .mov (.t 12)⟩,
  ⟨some 68, none, .mov (.t 2)⟩,
  ⟨some 69, none, .len 1 (.t 68)⟩,
  ⟨some 70, none, .bin .lss (.t 67) (.t 69)⟩,
  ⟨some 71, none, .mov (.t 70)⟩,
  ⟨some 72, some (71, true), .mov (.t 12)⟩,
  ⟨some 73, some (71, true), .bin .lss (.t 72) (.c (.int .i64 20))⟩,
  ⟨some 74, none, .pick (.t 71) (.t 73) (.c (.bool false))⟩])
  (.cond (.t 74)
  (.skip)
  (.exit 0)))
  (.seq (.block 1
  (.seq (.ops [⟨some 77, none, .mov (.t 11)⟩,
  ⟨some 13, none, .mov (.t 77)⟩])
  (c2_pianolalaw15_BusTimes)))
  (.ops [⟨some 75, none, .mov (.t 12)⟩,
  ⟨some 76, none, .bin .add (.t 75) (.c (.int .i64 1))⟩,
  ⟨some 12, none, .mov (.t 76)⟩]))
def c4_pianolalaw15_BusTimes : C :=
 .seq (.seq (.ops [⟨some 28, none, .mov (.t 7)⟩,
  ⟨some 29, none, .mov (.t 10)⟩,
  ⟨some 30, none, .bin .add (.t 29) (.c (.int .u32 64))⟩,
  ⟨some 31, none, .bin .add (.t 30) (.c (.int .u32 4))⟩,
  ⟨some 32, none, .mov (.t 8)⟩,
  ⟨some 33, none, .conv .u32 (.t 32)⟩,
  ⟨some 34, none, .call n_bus_Bus_Store [(.t 28), (.t 31), (.c (.int .i64 4)), (.t 33), (.c (.int .i64 0))]⟩,
  ⟨some 35, none, .un .not (.t 34)⟩,
  ⟨some 36, none, .mov (.t 35)⟩,
  ⟨some 37, some (36, false), .mov (.t 7)⟩,
  ⟨some 38, some (36, false), .mov (.t 10)⟩,
  ⟨some 39, some (36, false), .bin .add (.t 38) (.c (.int .u32 128))⟩,
  ⟨some 40, some (36, false), .bin .add (.t 39) (.c (.int .u32 4))⟩,
  ⟨some 41, some (36, false), .mov (.t 9)⟩,
  ⟨some 42, some (36, false), .conv .u32 (.t 41)⟩,
  ⟨some 43, some (36, false), .call n_bus_Bus_Store [(.t 37), (.t 40), (.c (.int .i64 4)), (.t 42), (.c (.int .i64 0))]⟩,
  ⟨some 44, some (36, false), .un .not (.t 43)⟩,
  ⟨some 45, none, .pick (.t 36) (.c (.bool true)) (.t 44)⟩,
  ⟨some 46, none, .mov (.t 45)⟩,
  ⟨some 47, some (46, false), .mov (.t 7)⟩,
  ⟨some 48, some (46, false), .mov (.t 10)⟩,
  ⟨some 49, some (46, false), .bin .add (.t 48) (.c (.int .u32 64))⟩,
  ⟨some 50, some (46, false), .call n_bus_Bus_Store [(.t 47), (.t 49), (.c (.int .i64 4)), (.c (.int .u32 3)), (.c (.int .i64 0))]⟩,
  ⟨some 51, some (46, false), .un .not (.t 50)⟩,
  ⟨some 52, none, .pick (.t 46) (.c (.bool true)) (.t 51)⟩,
  ⟨some 53, none, .mov (.t 52)⟩,
  ⟨some 54, some (53, false), .mov (.t 7)⟩,
  ⟨some 55, some (53, false), .mov (.t 10)⟩,
  ⟨some 56, some (53, false), .bin .add (.t 55) (.c (.int .u32 128))⟩,
  ⟨some 57, some (53, false), .call n_bus_Bus_Store [(.t 54), (.t 56), (.c (.int .i64 4)), (.c (.int .u32 3)), (.c (.int .i64 0))]⟩,
  ⟨some 58, some (53, false), .un .not (.t 57)⟩,
  ⟨some 59, none, .pick (.t 53) (.c (.bool true)) (.t 58)⟩,
  ⟨some 60, none, .mov (.t 59)⟩,
  ⟨some 61, some (60, false), .mov (.t 7)⟩,
  ⟨some 62, some (60, false), .mov (.t 10)⟩,
  ⟨some 63, some (60, false), .bin .add (.t 62) (.c (.int .u32 4))⟩,
  ⟨some 64, some (60, false), .call n_bus_Bus_Store [(.t 61), (.t 63), (.c (.int .i64 4)), (.c (.int .u32 6)), (.c (.int .i64 0))]⟩,
  ⟨some 65, some (60, false), .un .not (.t 64)⟩,
  ⟨some 66, none, .pick (.t 60) (.c (.bool true)) (.t 65)⟩])
  (.cond (.t 66)
  (.seq (.ops [⟨some 6, none, .mov (.c (.bool false))⟩])
  (.ret))
  (.skip)))
  (.seq (.ops [⟨some 11, none, .mov (.c (.int .i64 0))⟩])
  (.seq (.seq (.ops [⟨some 12, none, .mov (.c (.int .i64 0))⟩])
  (.block 0
  (.loop c3_pianolalaw15_BusTimes)))
  (.seq (.ops [⟨some 141, none, .call n_pianolalaw15_known []⟩,
  ⟨some 6, none, .mov (.t 141)⟩])
  (.ret))))
def c5_pianolalaw15_BusTimes : C :=
 .seq (.ops [⟨some 20, none, .mov (.t 0)⟩,
  ⟨some 21, none, .bin .rem (.t 20) (.c (.int .u32 30))⟩,
  ⟨some 22, none, .conv .i64 (.t 21)⟩,
  ⟨some 23, none, .bin .add (.t 22) (.c (.int .i64 20))⟩,
  ⟨some 24, none, .mov (.t 1)⟩,
  ⟨some 25, none, .bin .rem (.t 24) (.c (.int .u32 30))⟩,
  ⟨some 26, none, .conv .i64 (.t 25)⟩,
  ⟨some 27, none, .bin .add (.t 26) (.c (.int .i64 20))⟩,
  ⟨some 8, none, .mov (.t 23)⟩,
  ⟨some 9, none, .mov (.t 27)⟩])
  (.seq (.ops [⟨some 10, none, .mov (.c (.int .u32 520093696))⟩])
  (c4_pianolalaw15_BusTimes))
def c6_pianolalaw15_BusTimes : C :=
 .seq (.ops [⟨some 17, none, .call n_bus_New [(.c (.int .i64 1)), (.c (.slice none 0 0)), (.c (.slice none 0 0))]⟩,
  ⟨some 7, none, .mov (.t 17)⟩])
  (.seq (.seq (.ops [⟨some 18, none, .mov (.t 7)⟩,
  ⟨some 19, none, .eqn 0 false (.t 18)⟩])
  (.cond (.t 19)
  (.seq (.ops [⟨some 6, none, .mov (.c (.bool false))⟩])
  (.ret))
  (.skip)))
  (c5_pianolalaw15_BusTimes))
def c_pianolalaw15_BusTimes : C :=
 .seq (.ops [⟨some 6, none, .mov (.c (.bool false))⟩])
  (c6_pianolalaw15_BusTimes)
def f_pianolalaw15_BusTimes : F := ⟨c_pianolalaw15_BusTimes, [.t 6], some []⟩
theorem h_pianolalaw15_BusTimes : compF Try.prog (compAny Try.prog) n_pianolalaw15_BusTimes = some (f_pianolalaw15_BusTimes.body, f_pianolalaw15_BusTimes.res) := by kernel_rfl
/- pianola/wheel.New -/
def c_wheel_New : C :=
 .seq (.ops [⟨some 0, none, .mov (.c (.pointer none))⟩])
  (.seq (.ops [⟨some 1, none, .build [(.slice none 0 0), (.int .i64 0)] []⟩,
  ⟨some 2, none, .box (.t 1)⟩,
  ⟨some 0, none, .mov (.t 2)⟩])
  (.ret))
def f_wheel_New : F := ⟨c_wheel_New, [.t 0], some []⟩
theorem h_wheel_New : compF Try.prog (compAny Try.prog) n_wheel_New = some (f_wheel_New.body, f_wheel_New.res) := by kernel_rfl
/- pianola/uart.New -/
def c0_uart_New : C :=
 .seq (.any 3 [.op 0 ⟨some 7, none, .mov (.t 0)⟩,
  .op 1 ⟨some 8, none, .mov (.t 1)⟩,
  .al 2 0 ⟨some 9, none, .mkc 1 (.c (.int .i64 16))⟩,
  .al 3 1 ⟨some 10, none, .mkc 1 (.c (.int .i64 16))⟩,
  .op 4 ⟨some 11, none, .build [(.int .i64 0), (.pointer none), (.chan none), (.chan none), (.bool false), (.int .u32 0), (.slice none 0 0)] [(0, 1, (.t 7)), (1, 1, (.t 8)), (2, 1, (.t 9)), (3, 1, (.t 10))]⟩,
  .al 5 2 ⟨some 12, none, .box (.t 11)⟩,
  .op 6 ⟨some 4, none, .mov (.t 12)⟩])
  (.ret)
def c_uart_New : C :=
 .seq (.ops [⟨some 4, none, .mov (.c (.pointer none))⟩])
  (.seq (.seq (.ops [⟨some 5, none, .mov (.t 1)⟩,
  ⟨some 6, none, .eqn 0 false (.t 5)⟩])
  (.cond (.t 6)
  (.seq (.ops [⟨some 4, none, .mov (.c (.pointer none))⟩])
  (.ret))
  (.skip)))
  (c0_uart_New))
def f_uart_New : F := ⟨c_uart_New, [.t 4], some []⟩
theorem h_uart_New : compF Try.prog (compAny Try.prog) n_uart_New = some (f_uart_New.body, f_uart_New.res) := by kernel_rfl
/- (*pianola/uart.Uart).Write -/
def c0_uart_Uart_Write : C :=
 .seq (.ops [⟨some 19, none, .mov (.t 0)⟩,
  ⟨some 20, none, .nilc (.t 19)⟩,
  ⟨some 21, none, .fa 3 (.t 20)⟩,
  ⟨some 22, none, .ld (.t 21)⟩,
  ⟨some 23, none, .mov (.t 2)⟩,
  ⟨some 24, none, .conv .u8 (.t 23)⟩,
  ⟨some 25, none, .call n_uart_put [(.t 22), (.t 24)]⟩,
  ⟨some 26, none, .mov (.t 25)⟩,
  ⟨some 27, some (26, true), .mov (.t 9)⟩,
  ⟨some 28, none, .pick (.t 26) (.t 27) (.c (.bool false))⟩])
  (.cond (.t 28)
  (.ops [⟨some 29, none, .mov (.t 0)⟩,
  ⟨some 30, none, .mov (.t 3)⟩,
  ⟨some 31, none, .call n_uart_Uart_arm [(.t 29), (.t 30)]⟩])
  (.skip))
def c1_uart_Uart_Write : C :=
 .ops [⟨some 34, none, .mov (.t 0)⟩,
  ⟨some 35, none, .mov (.t 0)⟩,
  ⟨some 36, none, .nilc (.t 35)⟩,
  ⟨some 37, none, .fa 4 (.t 36)⟩,
  ⟨some 38, none, .ld (.t 37)⟩,
  ⟨some 39, none, .mov (.t 38)⟩,
  ⟨some 40, some (39, true), .mov (.t 2)⟩,
  ⟨some 41, some (39, true), .bin .and (.t 40) (.c (.int .u32 4))⟩,
  ⟨some 42, some (39, true), .bin .eql (.t 41) (.c (.int .u32 0))⟩,
  ⟨some 43, none, .pick (.t 39) (.t 42) (.c (.bool false))⟩,
  ⟨some 44, none, .nilc (.t 34)⟩,
  ⟨some 45, none, .fa 4 (.t 44)⟩,
  ⟨none, none, .st (.t 45) (.t 43)⟩]
def c2_uart_Uart_Write : C :=
 .cond (.t 46)
  (.ops [⟨some 48, none, .mov (.t 0)⟩,
  ⟨some 49, none, .mov (.t 2)⟩,
  ⟨some 50, none, .bin .and (.t 49) (.c (.int .u32 3))⟩,
  ⟨some 51, none, .nilc (.t 48)⟩,
  ⟨some 52, none, .fa 5 (.t 51)⟩,
  ⟨none, none, .st (.t 52) (.t 50)⟩])
  (.seq (.ops [⟨some 8, none, .mov (.c (.bool false))⟩])
  (.ret))
def c3_uart_Uart_Write : C :=
 .cond (.t 11)
  (.seq (.ops [⟨some 13, none, .mov (.t 0)⟩,
  ⟨some 14, none, .nilc (.t 13)⟩,
  ⟨some 15, none, .fa 3 (.t 14)⟩,
  ⟨some 16, none, .ld (.t 15)⟩,
  ⟨some 17, none, .len 3 (.t 16)⟩,
  ⟨some 18, none, .bin .eql (.t 17) (.c (.int .i64 0))⟩,
  ⟨some 9, none, .mov (.t 18)⟩])
  (c0_uart_Uart_Write))
  (.seq (.ops [⟨some 33, none, .bin .eql (.t 10) (.c (.int .u32 4))⟩,
  ⟨some 32, none, .mov (.t 33)⟩])
  (.cond (.t 32)
  (c1_uart_Uart_Write)
  (.seq (.ops [⟨some 47, none, .bin .eql (.t 10) (.c (.int .u32 8))⟩,
  ⟨some 46, none, .mov (.t 47)⟩])
  (c2_uart_Uart_Write))))
def c_uart_Uart_Write : C :=
 .seq (.ops [⟨some 8, none, .mov (.c (.bool false))⟩])
  (.seq (.seq (.ops [⟨some 10, none, .mov (.t 1)⟩])
  (.block 0
  (.seq (.ops [⟨some 12, none, .bin .eql (.t 10) (.c (.int .u32 0))⟩,
  ⟨some 11, none, .mov (.t 12)⟩])
  (c3_uart_Uart_Write))))
  (.seq (.ops [⟨some 8, none, .mov (.c (.bool true))⟩])
  (.ret)))
def f_uart_Uart_Write : F := ⟨c_uart_Uart_Write, [.t 8], some []⟩
theorem h_uart_Uart_Write : compF Try.prog (compAny Try.prog) n_uart_Uart_Write = some (f_uart_Uart_Write.body, f_uart_Uart_Write.res) := by kernel_rfl
/- (*pianola/wheel.Wheel).Take -/
def c0_wheel_Wheel_Take : C :=
 .seq (.ops [⟨some 14, none, .mov (.t 7)⟩,
  ⟨some 15, none, .un .not (.t 14)⟩,
  ⟨some 16, none, .mov (.t 15)⟩,
  ⟨some 17, some (16, false), .mov (.t 6)⟩,
  ⟨some 18, some (16, false), .mov (.t 1)⟩,
  ⟨some 19, some (16, false), .bin .gtr (.t 17) (.t 18)⟩,
  ⟨some 20, none, .pick (.t 16) (.c (.bool true)) (.t 19)⟩])
  (.cond (.t 20)
  (.seq (.ops [⟨some 21, none, .build [(.int .i64 0), (.int .i64 0), (.int .i64 0)] []⟩,
  ⟨none, none, .stn 3 (.t 4) (.t 21)⟩,
  ⟨some 5, none, .mov (.c (.bool false))⟩])
  (.ret))
  (.skip))
def c1_wheel_Wheel_Take : C :=
 .seq (.ops [⟨some 28, none, .mov (.t 0)⟩,
  ⟨some 29, none, .mov (.t 0)⟩,
  ⟨some 30, none, .nilc (.t 29)⟩,
  ⟨some 31, none, .fa 0 (.t 30)⟩,
  ⟨some 32, none, .ld (.t 31)⟩,
  ⟨some 33, none, .call n_slices_Delete_api_Event_api_Event [(.t 32), (.c (.int .i64 0)), (.c (.int .i64 1))]⟩,
  ⟨some 34, none, .nilc (.t 28)⟩,
  ⟨some 35, none, .fa 0 (.t 34)⟩,
  ⟨none, none, .st (.t 35) (.t 33)⟩])
  (.seq (.ops [⟨some 36, none, .ldn 3 (.t 8)⟩,
  ⟨none, none, .stn 3 (.t 4) (.t 36)⟩,
  ⟨some 5, none, .mov (.c (.bool true))⟩])
  (.ret))
def c2_wheel_Wheel_Take : C :=
 .seq (.ops [⟨some 22, none, .mov (.t 0)⟩,
  ⟨some 23, none, .nilc (.t 22)⟩,
  ⟨some 24, none, .fa 0 (.t 23)⟩,
  ⟨some 25, none, .ld (.t 24)⟩,
  ⟨some 26, none, .ia 3 (.t 25) (.c (.int .i64 0))⟩,
  ⟨some 27, none, .ldn 3 (.t 26)⟩,
  ⟨some 8, none, .new [(.int .i64 0), (.int .i64 0), (.int .i64 0)]⟩,
  ⟨none, none, .stn 3 (.t 8) (.t 27)⟩])
  (c1_wheel_Wheel_Take)
def c_wheel_Wheel_Take : C :=
 .seq (.ops [⟨some 4, none, .new [(.int .i64 0), (.int .i64 0), (.int .i64 0)]⟩,
  ⟨some 5, none, .mov (.c (.bool false))⟩])
  (.seq (.seq (.ops [⟨some 10, none, .mov (.t 0)⟩,
  ⟨some 11, none, .call n_wheel_Wheel_Next [(.t 10)]⟩,
  ⟨some 9, none, .mov (.t 11)⟩,
  ⟨some 12, none, .ext (.t 9) 0⟩,
  ⟨some 13, none, .ext (.t 9) 1⟩,
  ⟨some 6, none, .mov (.t 12)⟩,
  ⟨some 7, none, .mov (.t 13)⟩])
  (c0_wheel_Wheel_Take))
  (c2_wheel_Wheel_Take))
def f_wheel_Wheel_Take : F := ⟨c_wheel_Wheel_Take, [.ldn 3 4, .t 5], some []⟩
theorem h_wheel_Wheel_Take : compF Try.prog (compAny Try.prog) n_wheel_Wheel_Take = some (f_wheel_Wheel_Take.body, f_wheel_Wheel_Take.res) := by kernel_rfl
/- (*pianola/uart.Uart).Fire -/
def c0_uart_Uart_Fire : C :=
 .ops [⟨some 23, none, .mov (.t 0)⟩,
  ⟨some 24, none, .mov (.t 0)⟩,
  ⟨some 25, none, .nilc (.t 24)⟩,
  ⟨some 26, none, .fa 6 (.t 25)⟩,
  ⟨some 27, none, .ld (.t 26)⟩,
  ⟨some 28, none, .mov (.t 4)⟩,
  ⟨some 29, none, .bsl 1 [(.int .u8 0)] [(0, 1, (.t 28))]⟩,
  ⟨some 30, none, .app 1 1 (.t 27) (.t 29)⟩,
  ⟨some 31, none, .nilc (.t 23)⟩,
  ⟨some 32, none, .fa 6 (.t 31)⟩,
  ⟨none, none, .st (.t 32) (.t 30)⟩]
def c1_uart_Uart_Fire : C :=
 .seq (.ops [⟨some 14, none, .mov (.t 5)⟩,
  ⟨some 15, none, .mov (.t 14)⟩,
  ⟨some 16, some (15, true), .mov (.t 0)⟩,
  ⟨some 17, some (15, true), .nilc (.t 16)⟩,
  ⟨some 18, some (15, true), .fa 6 (.t 17)⟩,
  ⟨some 19, some (15, true), .ld (.t 18)⟩,
  ⟨some 20, some (15, true), .len 1 (.t 19)⟩,
  ⟨some 21, some (15, true), .bin .lss (.t 20) (.c (.int .i64 65536))⟩,
  ⟨some 22, none, .pick (.t 15) (.t 21) (.c (.bool false))⟩])
  (.cond (.t 22)
  (c0_uart_Uart_Fire)
  (.skip))
def c2_uart_Uart_Fire : C :=
 .seq (.ops [⟨some 33, none, .mov (.t 0)⟩,
  ⟨some 34, none, .nilc (.t 33)⟩,
  ⟨some 35, none, .fa 3 (.t 34)⟩,
  ⟨some 36, none, .ld (.t 35)⟩,
  ⟨some 37, none, .len 3 (.t 36)⟩,
  ⟨some 38, none, .bin .gtr (.t 37) (.c (.int .i64 0))⟩])
  (.cond (.t 38)
  (.ops [⟨some 39, none, .mov (.t 0)⟩,
  ⟨some 40, none, .mov (.t 1)⟩,
  ⟨some 41, none, .call n_uart_Uart_arm [(.t 39), (.t 40)]⟩])
  (.skip))
def c_uart_Uart_Fire : C :=
 .seq (.seq (.ops [⟨some 7, none, .mov (.t 0)⟩,
  ⟨some 8, none, .nilc (.t 7)⟩,
  ⟨some 9, none, .fa 3 (.t 8)⟩,
  ⟨some 10, none, .ld (.t 9)⟩,
  ⟨some 11, none, .call n_uart_take [(.t 10)]⟩,
  ⟨some 6, none, .mov (.t 11)⟩,
  ⟨some 12, none, .ext (.t 6) 0⟩,
  ⟨some 13, none, .ext (.t 6) 1⟩,
  ⟨some 4, none, .mov (.t 12)⟩,
  ⟨some 5, none, .mov (.t 13)⟩])
  (c1_uart_Uart_Fire))
  (c2_uart_Uart_Fire)
def f_uart_Uart_Fire : F := ⟨c_uart_Uart_Fire, [], some []⟩
theorem h_uart_Uart_Fire : compF Try.prog (compAny Try.prog) n_uart_Uart_Fire = some (f_uart_Uart_Fire.body, f_uart_Uart_Fire.res) := by kernel_rfl
/- (*pianola/uart.Uart).Out -/
def c_uart_Uart_Out : C :=
 .seq (.ops [⟨some 2, none, .mov (.c (.slice none 0 0))⟩])
  (.seq (.ops [⟨some 3, none, .mov (.t 0)⟩,
  ⟨some 4, none, .nilc (.t 3)⟩,
  ⟨some 5, none, .fa 6 (.t 4)⟩,
  ⟨some 6, none, .ld (.t 5)⟩,
  ⟨some 7, none, .call n_slices_Clone_byte_byte [(.t 6)]⟩,
  ⟨some 2, none, .mov (.t 7)⟩])
  (.ret))
def f_uart_Uart_Out : F := ⟨c_uart_Uart_Out, [.t 2], some []⟩
theorem h_uart_Uart_Out : compF Try.prog (compAny Try.prog) n_uart_Uart_Out = some (f_uart_Uart_Out.body, f_uart_Uart_Out.res) := by kernel_rfl
/- (*pianola/uart.Uart).Type -/
def c_uart_Uart_Type : C :=
 .seq (.ops [⟨some 4, none, .mov (.t 0)⟩,
  ⟨some 5, none, .nilc (.t 4)⟩,
  ⟨some 6, none, .fa 2 (.t 5)⟩,
  ⟨some 7, none, .ld (.t 6)⟩,
  ⟨some 8, none, .mov (.t 1)⟩,
  ⟨some 9, none, .call n_uart_put [(.t 7), (.t 8)]⟩,
  ⟨some 10, none, .un .not (.t 9)⟩])
  (.cond (.t 10)
  (.ops [⟨some 11, none, .mov (.t 0)⟩,
  ⟨some 12, none, .nilc (.t 11)⟩,
  ⟨some 13, none, .fa 4 (.t 12)⟩,
  ⟨none, none, .st (.t 13) (.c (.bool true))⟩])
  (.skip))
def f_uart_Uart_Type : F := ⟨c_uart_Uart_Type, [], some []⟩
theorem h_uart_Uart_Type : compF Try.prog (compAny Try.prog) n_uart_Uart_Type = some (f_uart_Uart_Type.body, f_uart_Uart_Type.res) := by kernel_rfl
/- (*pianola/uart.Uart).Read -/
def c0_uart_Uart_Read : C :=
 .seq (.seq (.ops [⟨some 12, none, .mov (.t 0)⟩,
  ⟨some 13, none, .nilc (.t 12)⟩,
  ⟨some 14, none, .fa 2 (.t 13)⟩,
  ⟨some 15, none, .ld (.t 14)⟩,
  ⟨some 16, none, .call n_uart_take [(.t 15)]⟩,
  ⟨some 11, none, .mov (.t 16)⟩,
  ⟨some 17, none, .ext (.t 11) 0⟩,
  ⟨some 18, none, .ext (.t 11) 1⟩,
  ⟨some 6, none, .mov (.t 17)⟩,
  ⟨some 7, none, .mov (.t 18)⟩])
  (.seq (.ops [⟨some 19, none, .mov (.t 7)⟩])
  (.cond (.t 19)
  (.seq (.ops [⟨some 20, none, .mov (.t 6)⟩,
  ⟨some 21, none, .conv .u32 (.t 20)⟩,
  ⟨some 4, none, .mov (.t 21)⟩,
  ⟨some 5, none, .mov (.c (.bool true))⟩])
  (.ret))
  (.skip))))
  (.seq (.ops [⟨some 4, none, .mov (.c (.int .u32 256))⟩,
  ⟨some 5, none, .mov (.c (.bool true))⟩])
  (.ret))
def c1_uart_Uart_Read : C :=
 .seq (.any 0 [.op 0 ⟨some 24, none, .mov (.t 0)⟩,
  .op 1 ⟨some 25, none, .nilc (.t 24)⟩,
  .op 2 ⟨some 26, none, .fa 2 (.t 25)⟩,
  .op 3 ⟨some 27, none, .ld (.t 26)⟩,
  .op 4 ⟨some 28, none, .len 3 (.t 27)⟩,
  .op 7 ⟨some 31, none, .mov (.t 0)⟩,
  .op 8 ⟨some 32, none, .nilc (.t 31)⟩,
  .op 9 ⟨some 33, none, .fa 3 (.t 32)⟩,
  .op 10 ⟨some 34, none, .ld (.t 33)⟩,
  .op 15 ⟨some 39, none, .mov (.t 0)⟩,
  .op 16 ⟨some 40, none, .nilc (.t 39)⟩,
  .op 17 ⟨some 41, none, .fa 4 (.t 40)⟩,
  .op 18 ⟨some 42, none, .ld (.t 41)⟩,
  .op 21 ⟨some 45, none, .mov (.t 0)⟩,
  .op 22 ⟨some 46, none, .nilc (.t 45)⟩,
  .op 23 ⟨some 47, none, .fa 3 (.t 46)⟩,
  .op 24 ⟨some 48, none, .ld (.t 47)⟩,
  .op 5 ⟨some 29, none, .bin .gtr (.t 28) (.c (.int .i64 0))⟩,
  .op 6 ⟨some 30, none, .call n_uart_bit [(.t 29), (.c (.int .u32 1))]⟩,
  .re 10 ⟨some 34, none, .ld (.t 33)⟩,
  .re 18 ⟨some 42, none, .ld (.t 41)⟩,
  .re 24 ⟨some 48, none, .ld (.t 47)⟩,
  .op 11 ⟨some 35, none, .len 3 (.t 34)⟩,
  .op 12 ⟨some 36, none, .bin .eql (.t 35) (.c (.int .i64 16))⟩,
  .op 13 ⟨some 37, none, .call n_uart_bit [(.t 36), (.c (.int .u32 2))]⟩,
  .re 18 ⟨some 42, none, .ld (.t 41)⟩,
  .re 24 ⟨some 48, none, .ld (.t 47)⟩,
  .op 19 ⟨some 43, none, .call n_uart_bit [(.t 42), (.c (.int .u32 4))]⟩,
  .re 24 ⟨some 48, none, .ld (.t 47)⟩,
  .op 25 ⟨some 49, none, .len 3 (.t 48)⟩,
  .op 26 ⟨some 50, none, .bin .eql (.t 49) (.c (.int .i64 0))⟩,
  .op 27 ⟨some 51, none, .call n_uart_bit [(.t 50), (.c (.int .u32 8))]⟩,
  .op 14 ⟨some 38, none, .bin .or (.t 30) (.t 37)⟩,
  .op 20 ⟨some 44, none, .bin .or (.t 38) (.t 43)⟩,
  .op 28 ⟨some 52, none, .bin .or (.t 44) (.t 51)⟩,
  .op 29 ⟨some 4, none, .mov (.t 52)⟩,
  .op 30 ⟨some 5, none, .mov (.c (.bool true))⟩])
  (.ret)
def c2_uart_Uart_Read : C :=
 .seq (.ops [⟨some 54, none, .bin .eql (.t 8) (.c (.int .u32 8))⟩,
  ⟨some 53, none, .mov (.t 54)⟩])
  (.cond (.t 53)
  (.seq (.ops [⟨some 55, none, .mov (.t 0)⟩,
  ⟨some 56, none, .nilc (.t 55)⟩,
  ⟨some 57, none, .fa 5 (.t 56)⟩,
  ⟨some 58, none, .ld (.t 57)⟩,
  ⟨some 4, none, .mov (.t 58)⟩,
  ⟨some 5, none, .mov (.c (.bool true))⟩])
  (.ret))
  (.skip))
def c3_uart_Uart_Read : C :=
 .seq (.seq (.ops [⟨some 8, none, .mov (.t 1)⟩])
  (.block 0
  (.seq (.ops [⟨some 10, none, .bin .eql (.t 8) (.c (.int .u32 0))⟩,
  ⟨some 9, none, .mov (.t 10)⟩])
  (.cond (.t 9)
  (c0_uart_Uart_Read)
  (.seq (.ops [⟨some 23, none, .bin .eql (.t 8) (.c (.int .u32 4))⟩,
  ⟨some 22, none, .mov (.t 23)⟩])
  (.cond (.t 22)
  (c1_uart_Uart_Read)
  (c2_uart_Uart_Read)))))))
  (.seq (.ops [⟨some 4, none, .mov (.c (.int .u32 0))⟩,
  ⟨some 5, none, .mov (.c (.bool false))⟩])
  (.ret))
def c_uart_Uart_Read : C :=
 .seq (.ops [⟨some 4, none, .mov (.c (.int .u32 0))⟩,
  ⟨some 5, none, .mov (.c (.bool false))⟩])
  (c3_uart_Uart_Read)
def f_uart_Uart_Read : F := ⟨c_uart_Uart_Read, [.t 4, .t 5], some []⟩
theorem h_uart_Uart_Read : compF Try.prog (compAny Try.prog) n_uart_Uart_Read = some (f_uart_Uart_Read.body, f_uart_Uart_Read.res) := by kernel_rfl
/- pianola/pianolalaw12.known -/
def c0_pianolalaw12_known : C :=
 .seq (.ops [⟨some 44, none, .mov (.t 4)⟩,
  ⟨some 45, none, .mov (.t 44)⟩,
  ⟨some 46, some (45, true), .mov (.t 2)⟩,
  ⟨some 47, some (45, true), .call n_uart_Uart_Out [(.t 46)]⟩,
  ⟨some 48, some (45, true), .b2s (.t 47)⟩,
  ⟨some 49, some (45, true), .bin .eql (.t 48) (.c (.string ⟨#[65]⟩))⟩,
  ⟨some 50, none, .pick (.t 45) (.t 49) (.c (.bool false))⟩,
  ⟨some 51, none, .mov (.t 50)⟩,
  ⟨some 52, some (51, true), .mov (.t 5)⟩,
  ⟨some 53, some (51, true), .bin .eql (.t 52) (.c (.int .u32 98))⟩,
  ⟨some 54, none, .pick (.t 51) (.t 53) (.c (.bool false))⟩,
  ⟨some 55, none, .mov (.t 54)⟩,
  ⟨some 56, some (55, true), .mov (.t 6)⟩,
  ⟨some 57, none, .pick (.t 55) (.t 56) (.c (.bool false))⟩,
  ⟨some 58, none, .mov (.t 57)⟩,
  ⟨some 59, some (58, true), .mov (.t 7)⟩,
  ⟨some 60, some (58, true), .bin .eql (.t 59) (.c (.int .u32 256))⟩,
  ⟨some 61, none, .pick (.t 58) (.t 60) (.c (.bool false))⟩,
  ⟨some 0, none, .mov (.t 61)⟩])
  (.ret)
def c1_pianolalaw12_known : C :=
 .seq (.ops [⟨some 35, none, .mov (.t 2)⟩,
  ⟨some 36, none, .call n_uart_Uart_Read [(.t 35), (.c (.int .u32 0))]⟩,
  ⟨some 34, none, .mov (.t 36)⟩,
  ⟨some 37, none, .ext (.t 34) 0⟩,
  ⟨some 38, none, .ext (.t 34) 1⟩,
  ⟨some 5, none, .mov (.t 37)⟩,
  ⟨some 6, none, .mov (.t 38)⟩])
  (.seq (.ops [⟨some 40, none, .mov (.t 2)⟩,
  ⟨some 41, none, .call n_uart_Uart_Read [(.t 40), (.c (.int .u32 0))]⟩,
  ⟨some 39, none, .mov (.t 41)⟩,
  ⟨some 42, none, .ext (.t 39) 0⟩,
  ⟨some 43, none, .ext (.t 39) 1⟩,
  ⟨some 7, none, .mov (.t 42)⟩,
  ⟨some 8, none, .mov (.t 43)⟩])
  (c0_pianolalaw12_known))
def c2_pianolalaw12_known : C :=
 .seq (.ops [⟨some 24, none, .mov (.t 1)⟩,
  ⟨some 25, none, .call n_wheel_Wheel_Take [(.t 24), (.c (.int .i64 8))]⟩,
  ⟨some 23, none, .mov (.t 25)⟩,
  ⟨some 26, none, .ext (.t 23) 0⟩,
  ⟨some 27, none, .ext (.t 23) 1⟩,
  ⟨some 3, none, .new [(.int .i64 0), (.int .i64 0), (.int .i64 0)]⟩,
  ⟨none, none, .stn 3 (.t 3) (.t 26)⟩,
  ⟨some 4, none, .mov (.t 27)⟩])
  (.seq (.ops [⟨some 28, none, .mov (.t 2)⟩,
  ⟨some 29, none, .fa 0 (.t 3)⟩,
  ⟨some 30, none, .ld (.t 29)⟩,
  ⟨some 31, none, .call n_uart_Uart_Fire [(.t 28), (.t 30)]⟩])
  (.seq (.ops [⟨some 32, none, .mov (.t 2)⟩,
  ⟨some 33, none, .call n_uart_Uart_Type [(.t 32), (.c (.int .u8 98))]⟩])
  (c1_pianolalaw12_known)))
def c3_pianolalaw12_known : C :=
 .seq (.seq (.ops [⟨some 12, none, .mov (.t 1)⟩,
  ⟨some 13, none, .eqn 0 false (.t 12)⟩,
  ⟨some 14, none, .mov (.t 13)⟩,
  ⟨some 15, some (14, false), .mov (.t 2)⟩,
  ⟨some 16, some (14, false), .eqn 0 false (.t 15)⟩,
  ⟨some 17, none, .pick (.t 14) (.c (.bool true)) (.t 16)⟩,
  ⟨some 18, none, .mov (.t 17)⟩,
  ⟨some 19, some (18, false), .mov (.t 2)⟩,
  ⟨some 20, some (18, false), .call n_uart_Uart_Write [(.t 19), (.c (.int .u32 0)), (.c (.int .u32 65)), (.c (.int .i64 0))]⟩,
  ⟨some 21, some (18, false), .un .not (.t 20)⟩,
  ⟨some 22, none, .pick (.t 18) (.c (.bool true)) (.t 21)⟩])
  (.cond (.t 22)
  (.seq (.ops [⟨some 0, none, .mov (.c (.bool false))⟩])
  (.ret))
  (.skip)))
  (c2_pianolalaw12_known)
def c_pianolalaw12_known : C :=
 .seq (.ops [⟨some 0, none, .mov (.c (.bool false))⟩])
  (.seq (.ops [⟨some 9, none, .call n_wheel_New []⟩,
  ⟨some 1, none, .mov (.t 9)⟩])
  (.seq (.ops [⟨some 10, none, .mov (.t 1)⟩,
  ⟨some 11, none, .call n_uart_New [(.c (.int .i64 3)), (.t 10)]⟩,
  ⟨some 2, none, .mov (.t 11)⟩])
  (c3_pianolalaw12_known)))
def f_pianolalaw12_known : F := ⟨c_pianolalaw12_known, [.t 0], some []⟩
theorem h_pianolalaw12_known : compF Try.prog (compAny Try.prog) n_pianolalaw12_known = some (f_pianolalaw12_known.body, f_pianolalaw12_known.res) := by kernel_rfl
end Go.Proofs.Ytpdfdemoflofhaa.Cd

/- The code of the functions that are reached, as the interpreter reads it. -/
set_option maxRecDepth 100000
set_option linter.defProp false
namespace Go.Proofs.Ytpdfdemoflofhaa.Cd
open Go Go.Dx
/- pianola/pianolabook.Within -/
def c0_pianolabook_Within : C :=
 .seq (.seq (.ops [⟨some 22, none, .mov (.t 0)⟩,
  ⟨some 23, none, .bin .lss (.t 22) (.c (.int .i64 0))⟩])
  (.cond (.t 23)
  (.ops [⟨some 24, none, .mov (.t 0)⟩,
  ⟨some 25, none, .mov (.t 2)⟩,
  ⟨some 26, none, .bin .add (.t 24) (.t 25)⟩,
  ⟨some 27, none, .mov (.t 1)⟩,
  ⟨some 28, none, .bin .sub (.t 26) (.t 27)⟩,
  ⟨some 29, none, .bin .add (.t 28) (.c (.int .i64 1))⟩,
  ⟨some 0, none, .mov (.t 29)⟩])
  (.skip)))
  (.seq (.ops [⟨some 30, none, .mov (.t 1)⟩,
  ⟨some 31, none, .mov (.t 0)⟩,
  ⟨some 32, none, .bin .add (.t 30) (.t 31)⟩,
  ⟨some 6, none, .mov (.t 32)⟩])
  (.ret))
def c1_pianolabook_Within : C :=
 .seq (.seq (.ops [⟨some 7, none, .mov (.t 0)⟩,
  ⟨some 8, none, .mov (.t 1)⟩,
  ⟨some 9, none, .bin .geq (.t 7) (.t 8)⟩,
  ⟨some 10, none, .mov (.t 9)⟩,
  ⟨some 11, some (10, true), .mov (.t 0)⟩,
  ⟨some 12, some (10, true), .mov (.t 2)⟩,
  ⟨some 13, some (10, true), .bin .leq (.t 11) (.t 12)⟩,
  ⟨some 14, none, .pick (.t 10) (.t 13) (.c (.bool false))⟩])
  (.cond (.t 14)
  (.seq (.ops [⟨some 15, none, .mov (.t 0)⟩,
  ⟨some 6, none, .mov (.t 15)⟩])
  (.ret))
  (.skip)))
  (.seq (.ops [⟨some 16, none, .mov (.t 0)⟩,
  ⟨some 17, none, .mov (.t 2)⟩,
  ⟨some 18, none, .mov (.t 1)⟩,
  ⟨some 19, none, .bin .sub (.t 17) (.t 18)⟩,
  ⟨some 20, none, .bin .add (.t 19) (.c (.int .i64 1))⟩,
  ⟨some 21, none, .bin .rem (.t 16) (.t 20)⟩,
  ⟨some 0, none, .mov (.t 21)⟩])
  (c0_pianolabook_Within))
def c_pianolabook_Within : C :=
 .seq (.ops [⟨some 6, none, .mov (.c (.int .i64 0))⟩])
  (c1_pianolabook_Within)
def f_pianolabook_Within : F := ⟨c_pianolabook_Within, [.t 6], some []⟩
theorem h_pianolabook_Within : compF Try.prog (compAny Try.prog) n_pianolabook_Within = some (f_pianolabook_Within.body, f_pianolabook_Within.res) := by kernel_rfl
/- (*pianola/uart.Uart).Line -/
def c0_uart_Uart_Line : C :=
 .seq (.ops [⟨some 3, none, .mov (.t 0)⟩,
  ⟨some 4, none, .nilc (.t 3)⟩,
  ⟨some 5, none, .fa 5 (.t 4)⟩,
  ⟨some 6, none, .ld (.t 5)⟩,
  ⟨some 7, none, .bin .and (.t 6) (.c (.int .u32 1))⟩,
  ⟨some 8, none, .bin .neq (.t 7) (.c (.int .u32 0))⟩,
  ⟨some 9, none, .mov (.t 8)⟩,
  ⟨some 10, some (9, true), .mov (.t 0)⟩,
  ⟨some 11, some (9, true), .nilc (.t 10)⟩,
  ⟨some 12, some (9, true), .fa 2 (.t 11)⟩,
  ⟨some 13, some (9, true), .ld (.t 12)⟩,
  ⟨some 14, some (9, true), .len 3 (.t 13)⟩,
  ⟨some 15, some (9, true), .bin .gtr (.t 14) (.c (.int .i64 0))⟩,
  ⟨some 16, none, .pick (.t 9) (.t 15) (.c (.bool false))⟩,
  ⟨some 17, none, .mov (.t 16)⟩,
  ⟨some 18, some (17, false), .mov (.t 0)⟩,
  ⟨some 19, some (17, false), .nilc (.t 18)⟩,
  ⟨some 20, some (17, false), .fa 5 (.t 19)⟩,
  ⟨some 21, some (17, false), .ld (.t 20)⟩,
  ⟨some 22, some (17, false), .bin .and (.t 21) (.c (.int .u32 2))⟩,
  ⟨some 23, some (17, false), .bin .neq (.t 22) (.c (.int .u32 0))⟩,
  ⟨some 24, some (17, false), .mov (.t 23)⟩,
  ⟨some 25, some (24, true), .mov (.t 0)⟩,
  ⟨some 26, some (24, true), .nilc (.t 25)⟩,
  ⟨some 27, some (24, true), .fa 3 (.t 26)⟩,
  ⟨some 28, some (24, true), .ld (.t 27)⟩,
  ⟨some 29, some (24, true), .len 3 (.t 28)⟩,
  ⟨some 30, some (24, true), .bin .eql (.t 29) (.c (.int .i64 0))⟩,
  ⟨some 31, some (17, false), .pick (.t 24) (.t 30) (.c (.bool false))⟩,
  ⟨some 32, none, .pick (.t 17) (.c (.bool true)) (.t 31)⟩,
  ⟨some 2, none, .mov (.t 32)⟩])
  (.ret)
def c_uart_Uart_Line : C :=
 .seq (.ops [⟨some 2, none, .mov (.c (.bool false))⟩])
  (c0_uart_Uart_Line)
def f_uart_Uart_Line : F := ⟨c_uart_Uart_Line, [.t 2], some []⟩
theorem h_uart_Uart_Line : compF Try.prog (compAny Try.prog) n_uart_Uart_Line = some (f_uart_Uart_Line.body, f_uart_Uart_Line.res) := by kernel_rfl
/- pianola/pianolalaw14.play -/
def c0_pianolalaw14_play : C :=
 .ops [⟨some 79, none, .mov (.t 15)⟩,
  ⟨some 80, none, .bsl 6 [(.int .u32 0), (.int .u32 0), (.int .u32 0), (.int .u32 0), (.int .u32 0), (.int .u32 0)] [(0, 1, (.c (.int .u32 5))), (1, 1, (.c (.int .u32 2100))), (2, 1, (.c (.int .u32 4))), (3, 1, (.c (.int .u32 8))), (4, 1, (.c (.int .u32 9))), (5, 1, (.c (.int .u32 9)))]⟩,
  ⟨some 81, none, .mov (.t 14)⟩,
  ⟨some 82, none, .bin .quo (.t 81) (.c (.int .u32 4))⟩,
  ⟨some 83, none, .ia 1 (.t 80) (.t 82)⟩,
  ⟨some 84, none, .ld (.t 83)⟩,
  ⟨some 85, none, .bin .rem (.t 79) (.t 84)⟩,
  ⟨some 15, none, .mov (.t 85)⟩]
def c1_pianolalaw14_play : C :=
 .seq (.ops [⟨some 114, none, .mov (.t 16)⟩,
  ⟨some 115, none, .mov (.t 18)⟩,
  ⟨some 116, none, .bin .neq (.t 114) (.t 115)⟩,
  ⟨some 117, none, .mov (.t 116)⟩,
  ⟨some 118, some (117, false), .mov (.t 17)⟩,
  ⟨some 119, some (117, false), .mov (.t 19)⟩,
  ⟨some 120, some (117, false), .eqb true (.t 118) (.t 119)⟩,
  ⟨some 121, none, .pick (.t 117) (.c (.bool true)) (.t 120)⟩])
  (.cond (.t 121)
  (.seq (.ops [⟨some 6, none, .mov (.c (.bool false))⟩])
  (.ret))
  (.skip))
def c2_pianolalaw14_play : C :=
 .seq (.ops [⟨some 108, none, .mov (.t 10)⟩,
  ⟨some 109, none, .mov (.t 14)⟩,
  ⟨some 110, none, .mov (.t 11)⟩,
  ⟨some 111, none, .call n_pianolaref15_Bus_Word [(.t 108), (.c (.int .i64 5)), (.t 109), (.t 110)]⟩,
  ⟨some 107, none, .mov (.t 111)⟩,
  ⟨some 112, none, .ext (.t 107) 0⟩,
  ⟨some 113, none, .ext (.t 107) 1⟩,
  ⟨some 18, none, .mov (.t 112)⟩,
  ⟨some 19, none, .mov (.t 113)⟩])
  (c1_pianolalaw14_play)
def c3_pianolalaw14_play : C :=
 .seq (.ops [⟨some 102, none, .mov (.t 9)⟩,
  ⟨some 103, none, .mov (.t 14)⟩,
  ⟨some 104, none, .call n_disk_Disk_Read [(.t 102), (.t 103)]⟩,
  ⟨some 101, none, .mov (.t 104)⟩,
  ⟨some 105, none, .ext (.t 101) 0⟩,
  ⟨some 106, none, .ext (.t 101) 1⟩,
  ⟨some 16, none, .mov (.t 105)⟩,
  ⟨some 17, none, .mov (.t 106)⟩])
  (c2_pianolalaw14_play)
def c4_pianolalaw14_play : C :=
 .seq (.ops [⟨some 140, none, .mov (.t 10)⟩,
  ⟨some 141, none, .nilc (.t 140)⟩,
  ⟨some 142, none, .fa 1 (.t 141)⟩,
  ⟨some 143, none, .mov (.t 11)⟩,
  ⟨some 144, none, .call n_pianolaref9_Wheel_Take [(.t 142), (.t 143)]⟩,
  ⟨some 139, none, .mov (.t 144)⟩,
  ⟨some 145, none, .ext (.t 139) 0⟩,
  ⟨some 146, none, .ext (.t 139) 1⟩,
  ⟨some 23, none, .new [(.int .i64 0), (.int .i64 0), (.int .i64 0)]⟩,
  ⟨none, none, .stn 3 (.t 23) (.t 145)⟩,
  ⟨some 24, none, .mov (.t 146)⟩])
  (.seq (.ops [⟨some 147, none, .mov (.t 24)⟩])
  (.cond (.t 147)
  (.ops [⟨some 148, none, .mov (.t 10)⟩,
  ⟨some 149, none, .ldn 3 (.t 23)⟩,
  ⟨some 150, none, .call n_pianolaref15_Bus_B1 [(.t 148), (.t 149)]⟩])
  (.skip)))
def c5_pianolalaw14_play : C :=
 .seq (.block 4
  (.seq (.seq (.ops [⟨some 129, none, .mov (.t 7)⟩,
  ⟨some 130, none, .mov (.t 11)⟩,
  ⟨some 131, none, .call n_wheel_Wheel_Take [(.t 129), (.t 130)]⟩,
  ⟨some 128, none, .mov (.t 131)⟩,
  ⟨some 132, none, .ext (.t 128) 0⟩,
  ⟨some 133, none, .ext (.t 128) 1⟩,
  ⟨some 21, none, .new [(.int .i64 0), (.int .i64 0), (.int .i64 0)]⟩,
  ⟨none, none, .stn 3 (.t 21) (.t 132)⟩,
  ⟨some 22, none, .mov (.t 133)⟩])
  (.seq (.ops [⟨some 134, none, .mov (.t 22)⟩])
  (.cond (.t 134)
  (.ops [⟨some 135, none, .mov (.t 9)⟩,
  ⟨some 136, none, .fa 0 (.t 21)⟩,
  ⟨some 137, none, .ld (.t 136)⟩,
  ⟨some 138, none, .call n_disk_Disk_Fire [(.t 135), (.t 137)]⟩])
  (.skip))))
  (c4_pianolalaw14_play)))
  (.ops [⟨some 126, none, .mov (.t 20)⟩,
  ⟨some 127, none, .bin .add (.t 126) (.c (.int .i64 1))⟩,
  ⟨some 20, none, .mov (.t 127)⟩])
def c6_pianolalaw14_play : C :=
 .seq (.seq (.ops [⟨some 124, none, .mov (.t 20)⟩,
  ⟨some 125, none, .bin .lss (.t 124) (.c (.int .i64 3))⟩])
  (.cond (.t 125)
  (.skip)
  (.exit 3)))
  (c5_pianolalaw14_play)
def c7_pianolalaw14_play : C :=
 .any 0 [.op 0 ⟨some 168, none, .mov (.t 10)⟩,
  .op 1 ⟨some 169, none, .nilc (.t 168)⟩,
  .op 2 ⟨some 170, none, .fa 0 (.t 169)⟩,
  .op 3 ⟨some 171, none, .ld (.t 170)⟩,
  .op 4 ⟨some 172, none, .fa 2 (.t 13)⟩,
  .op 5 ⟨some 173, none, .ld (.t 172)⟩,
  .op 7 ⟨some 175, none, .fa 4 (.t 13)⟩,
  .op 8 ⟨some 176, none, .ld (.t 175)⟩,
  .op 6 ⟨some 174, none, .bin .rem (.t 173) (.c (.int .u32 2048))⟩,
  .op 9 ⟨some 177, none, .conv .u32 (.t 176)⟩,
  .op 10 ⟨some 178, none, .call n_pianolaref2_Ram_Store [(.t 171), (.t 174), (.c (.int .i64 1)), (.t 177)]⟩]
def c8_pianolalaw14_play : C :=
 .seq (.ops [⟨some 160, none, .mov (.t 8)⟩,
  ⟨some 161, none, .fa 2 (.t 13)⟩,
  ⟨some 162, none, .ld (.t 161)⟩,
  ⟨some 163, none, .bin .rem (.t 162) (.c (.int .u32 2048))⟩,
  ⟨some 164, none, .fa 4 (.t 13)⟩,
  ⟨some 165, none, .ld (.t 164)⟩,
  ⟨some 166, none, .conv .u32 (.t 165)⟩,
  ⟨some 167, none, .call n_ram_Ram_Store [(.t 160), (.t 163), (.c (.int .i64 1)), (.t 166)]⟩])
  (c7_pianolalaw14_play)
def c9_pianolalaw14_play : C :=
 .seq (.ops [⟨some 88, none, .mov (.t 9)⟩,
  ⟨some 89, none, .mov (.t 14)⟩,
  ⟨some 90, none, .mov (.t 15)⟩,
  ⟨some 91, none, .mov (.t 11)⟩,
  ⟨some 92, none, .call n_disk_Disk_Write [(.t 88), (.t 89), (.t 90), (.t 91)]⟩,
  ⟨some 93, none, .mov (.t 10)⟩,
  ⟨some 94, none, .mov (.t 14)⟩,
  ⟨some 95, none, .mov (.t 15)⟩,
  ⟨some 96, none, .mov (.t 11)⟩,
  ⟨some 97, none, .call n_pianolaref15_Bus_Set [(.t 93), (.c (.int .i64 5)), (.t 94), (.t 95), (.t 96)]⟩,
  ⟨some 98, none, .eqb true (.t 92) (.t 97)⟩])
  (.cond (.t 98)
  (.seq (.ops [⟨some 6, none, .mov (.c (.bool false))⟩])
  (.ret))
  (.skip))
def c10_pianolalaw14_play : C :=
 .cond (.t 151)
  (.ops [⟨some 153, none, .mov (.t 11)⟩,
  ⟨some 154, none, .fa 3 (.t 13)⟩,
  ⟨some 155, none, .ld (.t 154)⟩,
  ⟨some 156, none, .call n_pianolabook_Within [(.t 155), (.c (.int .i64 0)), (.c (.int .i64 40))]⟩,
  ⟨some 157, none, .bin .add (.t 153) (.t 156)⟩,
  ⟨some 11, none, .mov (.t 157)⟩])
  (.seq (.ops [⟨some 159, none, .bin .eql (.t 87) (.c (.int .i64 5))⟩,
  ⟨some 158, none, .mov (.t 159)⟩])
  (.cond (.t 158)
  (c8_pianolalaw14_play)
  (c9_pianolalaw14_play)))
def c11_pianolalaw14_play : C :=
 .seq (.ops [⟨some 123, none, .bin .eql (.t 87) (.c (.int .i64 3))⟩,
  ⟨some 122, none, .mov (.t 123)⟩])
  (.cond (.t 122)
  (.seq (.ops [⟨some 20, none, .mov (.c (.int .i64 0))⟩])
  (.block 3
  (.loop c6_pianolalaw14_play)))
  (.seq (.ops [⟨some 152, none, .bin .eql (.t 87) (.c (.int .i64 4))⟩,
  ⟨some 151, none, .mov (.t 152)⟩])
  (c10_pianolalaw14_play)))
def c12_pianolalaw14_play : C :=
 .seq (.any 0 [.op 0 ⟨some 179, none, .mov (.t 9)⟩,
  .op 1 ⟨some 180, none, .call n_disk_Disk_Line [(.t 179)]⟩,
  .op 2 ⟨some 181, none, .mov (.t 10)⟩,
  .op 3 ⟨some 182, none, .call n_pianolaref15_Bus_Line [(.t 181), (.c (.int .i64 5))]⟩,
  .op 4 ⟨some 183, none, .eqb true (.t 180) (.t 182)⟩,
  .op 5 ⟨some 184, none, .mov (.t 183)⟩,
  .op 8 ⟨some 187, some (184, false), .mov (.t 10)⟩,
  .op 9 ⟨some 188, some (184, false), .nilc (.t 187)⟩,
  .op 10 ⟨some 189, some (184, false), .fa 1 (.t 188)⟩,
  .op 11 ⟨some 190, some (184, false), .fa 0 (.t 189)⟩,
  .op 12 ⟨some 191, some (184, false), .ld (.t 190)⟩,
  .op 6 ⟨some 185, some (184, false), .mov (.t 7)⟩,
  .op 7 ⟨some 186, some (184, false), .call n_wheel_Wheel_All [(.t 185)]⟩,
  .re 12 ⟨some 191, some (184, false), .ld (.t 190)⟩,
  .op 13 ⟨some 192, some (184, false), .call n_pianolabook_Same_api_Event [(.t 186), (.t 191)]⟩,
  .op 14 ⟨some 193, some (184, false), .un .not (.t 192)⟩,
  .op 15 ⟨some 194, none, .pick (.t 184) (.c (.bool true)) (.t 193)⟩,
  .op 16 ⟨some 195, none, .mov (.t 194)⟩,
  .op 20 ⟨some 199, some (195, false), .mov (.t 10)⟩,
  .op 21 ⟨some 200, some (195, false), .nilc (.t 199)⟩,
  .op 22 ⟨some 201, some (195, false), .fa 18 (.t 200)⟩,
  .op 23 ⟨some 202, some (195, false), .fa 4 (.t 201)⟩,
  .op 24 ⟨some 203, some (195, false), .ld (.t 202)⟩,
  .op 25 ⟨some 204, some (195, false), .b2s (.t 203)⟩,
  .op 17 ⟨some 196, some (195, false), .mov (.t 9)⟩,
  .op 18 ⟨some 197, some (195, false), .call n_disk_Disk_Bytes [(.t 196)]⟩,
  .re 24 ⟨some 203, some (195, false), .ld (.t 202)⟩,
  .re 25 ⟨some 204, some (195, false), .b2s (.t 203)⟩,
  .op 19 ⟨some 198, some (195, false), .b2s (.t 197)⟩,
  .op 26 ⟨some 205, some (195, false), .bin .neq (.t 198) (.t 204)⟩,
  .op 27 ⟨some 206, none, .pick (.t 195) (.c (.bool true)) (.t 205)⟩])
  (.cond (.t 206)
  (.seq (.ops [⟨some 6, none, .mov (.c (.bool false))⟩])
  (.ret))
  (.skip))
def c13_pianolalaw14_play : C :=
 .seq (.seq (.ops [⟨some 78, none, .mov (.t 2)⟩])
  (.cond (.t 78)
  (c0_pianolalaw14_play)
  (.skip)))
  (.seq (.seq (.ops [⟨some 86, none, .fa 0 (.t 13)⟩,
  ⟨some 87, none, .ld (.t 86)⟩])
  (.block 2
  (.seq (.ops [⟨some 100, none, .bin .eql (.t 87) (.c (.int .i64 2))⟩,
  ⟨some 99, none, .mov (.t 100)⟩])
  (.cond (.t 99)
  (c3_pianolalaw14_play)
  (c11_pianolalaw14_play)))))
  (c12_pianolalaw14_play))
def c14_pianolalaw14_play : C :=
 .seq (.ops [⟨some 71, none, .fa 1 (.t 13)⟩,
  ⟨some 72, none, .ld (.t 71)⟩,
  ⟨some 73, none, .call n_pianolabook_Within [(.t 72), (.c (.int .i64 0)), (.c (.int .i64 5))]⟩,
  ⟨some 74, none, .conv .u32 (.t 73)⟩,
  ⟨some 75, none, .bin .mul (.t 74) (.c (.int .u32 4))⟩,
  ⟨some 14, none, .mov (.t 75)⟩])
  (.seq (.ops [⟨some 76, none, .fa 2 (.t 13)⟩,
  ⟨some 77, none, .ld (.t 76)⟩,
  ⟨some 15, none, .mov (.t 77)⟩])
  (c13_pianolalaw14_play))
def c15_pianolalaw14_play : C :=
 .seq (.block 1
  (.seq (.seq (.any 0 [.op 0 ⟨some 45, none, .mov (.t 7)⟩,
  .op 1 ⟨some 46, none, .eqn 0 false (.t 45)⟩,
  .op 2 ⟨some 47, none, .mov (.t 46)⟩,
  .op 3 ⟨some 48, some (47, false), .mov (.t 8)⟩,
  .op 4 ⟨some 49, some (47, false), .eqn 0 false (.t 48)⟩,
  .op 5 ⟨some 50, none, .pick (.t 47) (.c (.bool true)) (.t 49)⟩,
  .op 6 ⟨some 51, none, .mov (.t 50)⟩,
  .op 7 ⟨some 52, some (51, false), .mov (.t 9)⟩,
  .op 8 ⟨some 53, some (51, false), .eqn 0 false (.t 52)⟩,
  .op 9 ⟨some 54, none, .pick (.t 51) (.c (.bool true)) (.t 53)⟩,
  .op 10 ⟨some 55, none, .mov (.t 54)⟩,
  .op 13 ⟨some 58, some (55, false), .mov (.t 10)⟩,
  .op 14 ⟨some 59, some (55, false), .nilc (.t 58)⟩,
  .op 15 ⟨some 60, some (55, false), .fa 18 (.t 59)⟩,
  .op 16 ⟨some 61, some (55, false), .fa 4 (.t 60)⟩,
  .op 17 ⟨some 62, some (55, false), .ld (.t 61)⟩,
  .op 18 ⟨some 63, some (55, false), .len 1 (.t 62)⟩,
  .op 11 ⟨some 56, some (55, false), .mov (.t 9)⟩,
  .op 12 ⟨some 57, some (55, false), .call n_disk_Disk_Sectors [(.t 56)]⟩,
  .re 17 ⟨some 62, some (55, false), .ld (.t 61)⟩,
  .re 18 ⟨some 63, some (55, false), .len 1 (.t 62)⟩,
  .op 19 ⟨some 64, some (55, false), .bin .quo (.t 63) (.c (.int .i64 64))⟩,
  .op 20 ⟨some 65, some (55, false), .bin .neq (.t 57) (.t 64)⟩,
  .op 21 ⟨some 66, none, .pick (.t 55) (.c (.bool true)) (.t 65)⟩])
  (.cond (.t 66)
  (.seq (.ops [⟨some 6, none, .mov (.c (.bool false))⟩])
  (.ret))
  (.skip)))
  (.seq (.ops [⟨some 67, none, .mov (.t 1)⟩,
  ⟨some 68, none, .mov (.t 12)⟩,
  ⟨some 69, none, .ia 5 (.t 67) (.t 68)⟩,
  ⟨some 70, none, .ldn 5 (.t 69)⟩,
  ⟨some 13, none, .new [(.int .i64 0), (.int .i64 0), (.int .u32 0), (.int .i64 0), (.int .u8 0)]⟩,
  ⟨none, none, .stn 5 (.t 13) (.t 70)⟩])
  (c14_pianolalaw14_play))))
  (.ops [⟨some 43, none, .mov (.t 12)⟩,
  ⟨some 44, none, .bin .add (.t 43) (.c (.int .i64 1))⟩,
  ⟨some 12, none, .mov (.t 44)⟩])
def c16_pianolalaw14_play : C :=
 .seq (.seq (.ops [⟨some 35, none, .mov (.t 12)⟩,
  ⟨some 36, none, .mov (.t 1)⟩,
  ⟨some 37, none, .len 1 (.t 36)⟩,
  ⟨some 38, none, .bin .lss (.t 35) (.t 37)⟩,
  ⟨some 39, none, .mov (.t 38)⟩,
  ⟨some 40, some (39, true), .mov (.t 12)⟩,
  ⟨some 41, some (39, true), .bin .lss (.t 40) (.c (.int .i64 80))⟩,
  ⟨some 42, none, .pick (.t 39) (.t 41) (.c (.bool false))⟩])
  (.cond (.t 42)
  (.skip)
  (.exit 0)))
  (c15_pianolalaw14_play)
def c17_pianolalaw14_play : C :=
 .seq (.any 0 [.op 0 ⟨some 212, none, .mov (.t 26)⟩,
  .op 1 ⟨some 213, none, .mov (.t 212)⟩,
  .op 2 ⟨some 214, some (213, true), .mov (.t 25)⟩,
  .op 3 ⟨some 215, some (213, true), .b2s (.t 214)⟩,
  .op 4 ⟨some 216, some (213, true), .mov (.t 10)⟩,
  .op 5 ⟨some 217, some (213, true), .nilc (.t 216)⟩,
  .op 6 ⟨some 218, some (213, true), .fa 0 (.t 217)⟩,
  .op 7 ⟨some 219, some (213, true), .ld (.t 218)⟩,
  .op 8 ⟨some 220, some (213, true), .nilc (.t 219)⟩,
  .op 9 ⟨some 221, some (213, true), .fa 0 (.t 220)⟩,
  .op 10 ⟨some 222, some (213, true), .ld (.t 221)⟩,
  .op 11 ⟨some 223, some (213, true), .b2s (.t 222)⟩,
  .op 12 ⟨some 224, some (213, true), .bin .eql (.t 215) (.t 223)⟩,
  .op 13 ⟨some 225, none, .pick (.t 213) (.t 224) (.c (.bool false))⟩,
  .op 14 ⟨some 6, none, .mov (.t 225)⟩])
  (.ret)
def c18_pianolalaw14_play : C :=
 .seq (.ops [⟨some 208, none, .mov (.t 8)⟩,
  ⟨some 209, none, .call n_ram_Ram_Bytes [(.t 208), (.c (.int .u32 0)), (.c (.int .i64 2048))]⟩,
  ⟨some 207, none, .mov (.t 209)⟩,
  ⟨some 210, none, .ext (.t 207) 0⟩,
  ⟨some 211, none, .ext (.t 207) 1⟩,
  ⟨some 25, none, .mov (.t 210)⟩,
  ⟨some 26, none, .mov (.t 211)⟩])
  (c17_pianolalaw14_play)
def c19_pianolalaw14_play : C :=
 .seq (.ops [⟨some 33, none, .mov (.t 0)⟩,
  ⟨some 34, none, .call n_pianolaref15_New [(.c (.int .i64 2)), (.c (.slice none 0 0)), (.t 33)]⟩,
  ⟨some 10, none, .mov (.t 34)⟩])
  (.seq (.ops [⟨some 11, none, .mov (.c (.int .i64 0))⟩])
  (.seq (.seq (.ops [⟨some 12, none, .mov (.c (.int .i64 0))⟩])
  (.block 0
  (.loop c16_pianolalaw14_play)))
  (c18_pianolalaw14_play)))
def c20_pianolalaw14_play : C :=
 .seq (.ops [⟨some 27, none, .call n_wheel_New []⟩,
  ⟨some 28, none, .call n_ram_New [(.c (.int .i64 2))]⟩,
  ⟨some 7, none, .mov (.t 27)⟩,
  ⟨some 8, none, .mov (.t 28)⟩])
  (.seq (.ops [⟨some 29, none, .mov (.t 7)⟩,
  ⟨some 30, none, .mov (.t 8)⟩,
  ⟨some 31, none, .mov (.t 0)⟩,
  ⟨some 32, none, .call n_disk_New [(.c (.int .i64 5)), (.t 29), (.t 30), (.t 31)]⟩,
  ⟨some 9, none, .mov (.t 32)⟩])
  (c19_pianolalaw14_play))
def c_pianolalaw14_play : C :=
 .seq (.ops [⟨some 6, none, .mov (.c (.bool false))⟩])
  (c20_pianolalaw14_play)
def f_pianolalaw14_play : F := ⟨c_pianolalaw14_play, [.t 6], some []⟩
theorem h_pianolalaw14_play : compF Try.prog (compAny Try.prog) n_pianolalaw14_play = some (f_pianolalaw14_play.body, f_pianolalaw14_play.res) := by kernel_rfl
/- pianola/ram.New -/
def c0_ram_New : C :=
 .seq (.any 4 [.op 0 ⟨some 7, none, .mov (.t 3)⟩,
  .op 1 ⟨some 8, none, .bin .mul (.t 7) (.c (.int .i64 1024))⟩,
  .al 2 0 ⟨some 9, none, .mks [(.int .u8 0)] 1 (.t 8) (.t 8)⟩,
  .op 3 ⟨some 10, none, .mov (.t 3)⟩,
  .al 4 1 ⟨some 11, none, .mks [(.bool false)] 1 (.t 10) (.t 10)⟩,
  .op 5 ⟨some 12, none, .mov (.t 3)⟩,
  .al 6 2 ⟨some 13, none, .mks [(.bool false)] 1 (.t 12) (.t 12)⟩,
  .op 7 ⟨some 14, none, .build [(.slice none 0 0), (.slice none 0 0), (.slice none 0 0)] [(0, 1, (.t 9)), (1, 1, (.t 11)), (2, 1, (.t 13))]⟩,
  .al 8 3 ⟨some 15, none, .box (.t 14)⟩,
  .op 9 ⟨some 2, none, .mov (.t 15)⟩])
  (.ret)
def c_ram_New : C :=
 .seq (.ops [⟨some 2, none, .mov (.c (.pointer none))⟩])
  (.seq (.ops [⟨some 4, none, .mov (.t 0)⟩,
  ⟨some 5, none, .mn (.t 4) (.c (.int .i64 64))⟩,
  ⟨some 6, none, .mx (.c (.int .i64 1)) (.t 5)⟩,
  ⟨some 3, none, .mov (.t 6)⟩])
  (c0_ram_New))
def f_ram_New : F := ⟨c_ram_New, [.t 2], some []⟩
theorem h_ram_New : compF Try.prog (compAny Try.prog) n_ram_New = some (f_ram_New.body, f_ram_New.res) := by kernel_rfl
/- pianola/disk.New -/
def c0_disk_New : C :=
 .seq (.ops [⟨some 29, none, .mov (.t 0)⟩,
  ⟨some 30, none, .mov (.t 1)⟩,
  ⟨some 31, none, .mov (.t 2)⟩,
  ⟨some 32, none, .mov (.t 10)⟩,
  ⟨some 33, none, .build [(.int .i64 0), (.pointer none), (.pointer none), (.slice none 0 0), (.int .u32 0), (.int .u32 0), (.int .u32 0), (.int .u32 0)] [(0, 1, (.t 29)), (1, 1, (.t 30)), (2, 1, (.t 31)), (3, 1, (.t 32))]⟩,
  ⟨some 34, none, .box (.t 33)⟩,
  ⟨some 8, none, .mov (.t 34)⟩])
  (.ret)
def c1_disk_New : C :=
 .seq (.ops [⟨some 23, none, .mov (.t 9)⟩,
  ⟨some 24, none, .bin .mul (.t 23) (.c (.int .i64 64))⟩,
  ⟨some 25, none, .mks [(.int .u8 0)] 1 (.t 24) (.t 24)⟩,
  ⟨some 10, none, .mov (.t 25)⟩])
  (.seq (.ops [⟨some 26, none, .mov (.t 10)⟩,
  ⟨some 27, none, .mov (.t 3)⟩,
  ⟨some 28, none, .cpy 1 (.t 26) (.t 27)⟩])
  (c0_disk_New))
def c2_disk_New : C :=
 .seq (.ops [⟨some 17, none, .mov (.t 3)⟩,
  ⟨some 18, none, .len 1 (.t 17)⟩,
  ⟨some 19, none, .bin .add (.t 18) (.c (.int .i64 64))⟩,
  ⟨some 20, none, .bin .sub (.t 19) (.c (.int .i64 1))⟩,
  ⟨some 21, none, .bin .quo (.t 20) (.c (.int .i64 64))⟩,
  ⟨some 22, none, .mn (.t 21) (.c (.int .i64 64))⟩,
  ⟨some 9, none, .mov (.t 22)⟩])
  (c1_disk_New)
def c3_disk_New : C :=
 .seq (.seq (.ops [⟨some 11, none, .mov (.t 1)⟩,
  ⟨some 12, none, .eqn 0 false (.t 11)⟩,
  ⟨some 13, none, .mov (.t 12)⟩,
  ⟨some 14, some (13, false), .mov (.t 2)⟩,
  ⟨some 15, some (13, false), .eqn 0 false (.t 14)⟩,
  ⟨some 16, none, .pick (.t 13) (.c (.bool true)) (.t 15)⟩])
  (.cond (.t 16)
  (.seq (.ops [⟨some 8, none, .mov (.c (.pointer none))⟩])
  (.ret))
  (.skip)))
  (c2_disk_New)
def c_disk_New : C :=
 .seq (.ops [⟨some 8, none, .mov (.c (.pointer none))⟩])
  (c3_disk_New)
def f_disk_New : F := ⟨c_disk_New, [.t 8], some []⟩
theorem h_disk_New : compF Try.prog (compAny Try.prog) n_disk_New = some (f_disk_New.body, f_disk_New.res) := by kernel_rfl
/- (*pianola/disk.Disk).Sectors -/
def c_disk_Disk_Sectors : C :=
 .seq (.ops [⟨some 2, none, .mov (.c (.int .i64 0))⟩])
  (.seq (.ops [⟨some 3, none, .mov (.t 0)⟩,
  ⟨some 4, none, .nilc (.t 3)⟩,
  ⟨some 5, none, .fa 3 (.t 4)⟩,
  ⟨some 6, none, .ld (.t 5)⟩,
  ⟨some 7, none, .len 1 (.t 6)⟩,
  ⟨some 8, none, .bin .quo (.t 7) (.c (.int .i64 64))⟩,
  ⟨some 2, none, .mov (.t 8)⟩])
  (.ret))
def f_disk_Disk_Sectors : F := ⟨c_disk_Disk_Sectors, [.t 2], some []⟩
theorem h_disk_Disk_Sectors : compF Try.prog (compAny Try.prog) n_disk_Disk_Sectors = some (f_disk_Disk_Sectors.body, f_disk_Disk_Sectors.res) := by kernel_rfl
/- pianola/pianolalaw14.known -/
def c0_pianolalaw14_known : C :=
 .seq (.ops [⟨some 55, none, .mov (.t 5)⟩,
  ⟨some 56, none, .mov (.t 55)⟩,
  ⟨some 57, some (56, true), .mov (.t 6)⟩,
  ⟨some 58, some (56, true), .b2s (.t 57)⟩,
  ⟨some 59, some (56, true), .bin .eql (.t 58) (.c (.string ⟨#[100, 105, 115, 107, 0]⟩))⟩,
  ⟨some 60, none, .pick (.t 56) (.t 59) (.c (.bool false))⟩,
  ⟨some 61, none, .mov (.t 60)⟩,
  ⟨some 62, some (61, true), .mov (.t 8)⟩,
  ⟨some 63, some (61, true), .bin .eql (.t 62) (.c (.int .u32 2))⟩,
  ⟨some 64, none, .pick (.t 61) (.t 63) (.c (.bool false))⟩,
  ⟨some 65, none, .mov (.t 64)⟩,
  ⟨some 66, some (65, true), .mov (.t 9)⟩,
  ⟨some 67, none, .pick (.t 65) (.t 66) (.c (.bool false))⟩,
  ⟨some 68, none, .mov (.t 67)⟩,
  ⟨some 69, some (68, true), .mov (.t 3)⟩,
  ⟨some 70, some (68, true), .call n_disk_Disk_Line [(.t 69)]⟩,
  ⟨some 71, none, .pick (.t 68) (.t 70) (.c (.bool false))⟩,
  ⟨some 0, none, .mov (.t 71)⟩])
  (.ret)
def c1_pianolalaw14_known : C :=
 .seq (.ops [⟨some 46, none, .mov (.t 2)⟩,
  ⟨some 47, none, .call n_ram_Ram_Bytes [(.t 46), (.c (.int .u32 100)), (.c (.int .i64 5))]⟩,
  ⟨some 45, none, .mov (.t 47)⟩,
  ⟨some 48, none, .ext (.t 45) 0⟩,
  ⟨some 49, none, .ext (.t 45) 1⟩,
  ⟨some 6, none, .mov (.t 48)⟩,
  ⟨some 7, none, .mov (.t 49)⟩])
  (.seq (.ops [⟨some 51, none, .mov (.t 3)⟩,
  ⟨some 52, none, .call n_disk_Disk_Read [(.t 51), (.c (.int .u32 12))]⟩,
  ⟨some 50, none, .mov (.t 52)⟩,
  ⟨some 53, none, .ext (.t 50) 0⟩,
  ⟨some 54, none, .ext (.t 50) 1⟩,
  ⟨some 8, none, .mov (.t 53)⟩,
  ⟨some 9, none, .mov (.t 54)⟩])
  (c0_pianolalaw14_known))
def c2_pianolalaw14_known : C :=
 .seq (.ops [⟨some 37, none, .mov (.t 1)⟩,
  ⟨some 38, none, .call n_wheel_Wheel_Take [(.t 37), (.c (.int .i64 32))]⟩,
  ⟨some 36, none, .mov (.t 38)⟩,
  ⟨some 39, none, .ext (.t 36) 0⟩,
  ⟨some 40, none, .ext (.t 36) 1⟩,
  ⟨some 4, none, .new [(.int .i64 0), (.int .i64 0), (.int .i64 0)]⟩,
  ⟨none, none, .stn 3 (.t 4) (.t 39)⟩,
  ⟨some 5, none, .mov (.t 40)⟩])
  (.seq (.ops [⟨some 41, none, .mov (.t 3)⟩,
  ⟨some 42, none, .fa 0 (.t 4)⟩,
  ⟨some 43, none, .ld (.t 42)⟩,
  ⟨some 44, none, .call n_disk_Disk_Fire [(.t 41), (.t 43)]⟩])
  (c1_pianolalaw14_known))
def c3_pianolalaw14_known : C :=
 .seq (.ops [⟨some 32, none, .mov (.t 3)⟩,
  ⟨some 33, none, .call n_disk_Disk_Write [(.t 32), (.c (.int .u32 4)), (.c (.int .u32 100)), (.c (.int .i64 0))]⟩])
  (.seq (.ops [⟨some 34, none, .mov (.t 3)⟩,
  ⟨some 35, none, .call n_disk_Disk_Write [(.t 34), (.c (.int .u32 8)), (.c (.int .u32 1)), (.c (.int .i64 0))]⟩])
  (c2_pianolalaw14_known))
def c4_pianolalaw14_known : C :=
 .seq (.seq (.ops [⟨some 17, none, .mov (.t 1)⟩,
  ⟨some 18, none, .eqn 0 false (.t 17)⟩,
  ⟨some 19, none, .mov (.t 18)⟩,
  ⟨some 20, some (19, false), .mov (.t 2)⟩,
  ⟨some 21, some (19, false), .eqn 0 false (.t 20)⟩,
  ⟨some 22, none, .pick (.t 19) (.c (.bool true)) (.t 21)⟩,
  ⟨some 23, none, .mov (.t 22)⟩,
  ⟨some 24, some (23, false), .mov (.t 3)⟩,
  ⟨some 25, some (23, false), .eqn 0 false (.t 24)⟩,
  ⟨some 26, none, .pick (.t 23) (.c (.bool true)) (.t 25)⟩,
  ⟨some 27, none, .mov (.t 26)⟩,
  ⟨some 28, some (27, false), .mov (.t 3)⟩,
  ⟨some 29, some (27, false), .call n_disk_Disk_Sectors [(.t 28)]⟩,
  ⟨some 30, some (27, false), .bin .neq (.t 29) (.c (.int .i64 1))⟩,
  ⟨some 31, none, .pick (.t 27) (.c (.bool true)) (.t 30)⟩])
  (.cond (.t 31)
  (.seq (.ops [⟨some 0, none, .mov (.c (.bool false))⟩])
  (.ret))
  (.skip)))
  (c3_pianolalaw14_known)
def c5_pianolalaw14_known : C :=
 .seq (.ops [⟨some 12, none, .mov (.t 1)⟩,
  ⟨some 13, none, .mov (.t 2)⟩,
  ⟨some 14, none, .bsl 4 [(.int .u8 0), (.int .u8 0), (.int .u8 0), (.int .u8 0)] [(0, 1, (.c (.int .u8 100))), (1, 1, (.c (.int .u8 105))), (2, 1, (.c (.int .u8 115))), (3, 1, (.c (.int .u8 107)))]⟩,
  ⟨some 15, none, .ms (.t 14)⟩,
  ⟨some 16, none, .call n_disk_New [(.c (.int .i64 5)), (.t 12), (.t 13), (.t 15)]⟩,
  ⟨some 3, none, .mov (.t 16)⟩])
  (c4_pianolalaw14_known)
def c_pianolalaw14_known : C :=
 .seq (.ops [⟨some 0, none, .mov (.c (.bool false))⟩])
  (.seq (.ops [⟨some 10, none, .call n_wheel_New []⟩,
  ⟨some 11, none, .call n_ram_New [(.c (.int .i64 1))]⟩,
  ⟨some 1, none, .mov (.t 10)⟩,
  ⟨some 2, none, .mov (.t 11)⟩])
  (c5_pianolalaw14_known))
def f_pianolalaw14_known : F := ⟨c_pianolalaw14_known, [.t 0], some []⟩
theorem h_pianolalaw14_known : compF Try.prog (compAny Try.prog) n_pianolalaw14_known = some (f_pianolalaw14_known.body, f_pianolalaw14_known.res) := by kernel_rfl
/- pianola/dma.New -/
def c0_dma_New : C :=
 .seq (.ops [⟨some 13, none, .mov (.t 0)⟩,
  ⟨some 14, none, .mov (.t 1)⟩,
  ⟨some 15, none, .mov (.t 2)⟩,
  ⟨some 16, none, .build [(.int .i64 0), (.pointer none), (.pointer none), (.int .u32 0), (.int .u32 0), (.int .u32 0), (.int .u32 0)] [(0, 1, (.t 13)), (1, 1, (.t 14)), (2, 1, (.t 15))]⟩,
  ⟨some 17, none, .box (.t 16)⟩,
  ⟨some 6, none, .mov (.t 17)⟩])
  (.ret)
def c1_dma_New : C :=
 .seq (.seq (.ops [⟨some 7, none, .mov (.t 1)⟩,
  ⟨some 8, none, .eqn 0 false (.t 7)⟩,
  ⟨some 9, none, .mov (.t 8)⟩,
  ⟨some 10, some (9, false), .mov (.t 2)⟩,
  ⟨some 11, some (9, false), .eqn 0 false (.t 10)⟩,
  ⟨some 12, none, .pick (.t 9) (.c (.bool true)) (.t 11)⟩])
  (.cond (.t 12)
  (.seq (.ops [⟨some 6, none, .mov (.c (.pointer none))⟩])
  (.ret))
  (.skip)))
  (c0_dma_New)
def c_dma_New : C :=
 .seq (.ops [⟨some 6, none, .mov (.c (.pointer none))⟩])
  (c1_dma_New)
def f_dma_New : F := ⟨c_dma_New, [.t 6], some []⟩
theorem h_dma_New : compF Try.prog (compAny Try.prog) n_dma_New = some (f_dma_New.body, f_dma_New.res) := by kernel_rfl
/- (*pianola/ram.Ram).Put -/
def c0_ram_Ram_Put : C :=
 .seq (.ops [⟨some 13, none, .mov (.t 0)⟩,
  ⟨some 14, none, .nilc (.t 13)⟩,
  ⟨some 15, none, .fa 0 (.t 14)⟩,
  ⟨some 16, none, .ld (.t 15)⟩,
  ⟨some 17, none, .mov (.t 1)⟩,
  ⟨some 18, none, .sl 1 (.t 16) (some (.t 17)) none none⟩,
  ⟨some 19, none, .mov (.t 2)⟩,
  ⟨some 20, none, .cpy 1 (.t 18) (.t 19)⟩])
  (.seq (.ops [⟨some 21, none, .mov (.t 0)⟩,
  ⟨some 22, none, .mov (.t 1)⟩,
  ⟨some 23, none, .mov (.t 2)⟩,
  ⟨some 24, none, .len 1 (.t 23)⟩,
  ⟨some 25, none, .call n_ram_Ram_touch [(.t 21), (.t 22), (.t 24)]⟩])
  (.seq (.ops [⟨some 6, none, .mov (.c (.bool true))⟩])
  (.ret)))
def c1_ram_Ram_Put : C :=
 .seq (.seq (.ops [⟨some 7, none, .mov (.t 0)⟩,
  ⟨some 8, none, .mov (.t 1)⟩,
  ⟨some 9, none, .mov (.t 2)⟩,
  ⟨some 10, none, .len 1 (.t 9)⟩,
  ⟨some 11, none, .call n_ram_Ram_there [(.t 7), (.t 8), (.t 10)]⟩,
  ⟨some 12, none, .un .not (.t 11)⟩])
  (.cond (.t 12)
  (.seq (.ops [⟨some 6, none, .mov (.c (.bool false))⟩])
  (.ret))
  (.skip)))
  (c0_ram_Ram_Put)
def c_ram_Ram_Put : C :=
 .seq (.ops [⟨some 6, none, .mov (.c (.bool false))⟩])
  (c1_ram_Ram_Put)
def f_ram_Ram_Put : F := ⟨c_ram_Ram_Put, [.t 6], some []⟩
theorem h_ram_Ram_Put : compF Try.prog (compAny Try.prog) n_ram_Ram_Put = some (f_ram_Ram_Put.body, f_ram_Ram_Put.res) := by kernel_rfl
/- (*pianola/ram.Ram).Bytes -/
def c0_ram_Ram_Bytes : C :=
 .seq (.ops [⟨some 13, none, .mov (.t 0)⟩,
  ⟨some 14, none, .nilc (.t 13)⟩,
  ⟨some 15, none, .fa 0 (.t 14)⟩,
  ⟨some 16, none, .ld (.t 15)⟩,
  ⟨some 17, none, .mov (.t 1)⟩,
  ⟨some 18, none, .mov (.t 1)⟩,
  ⟨some 19, none, .conv .i64 (.t 18)⟩,
  ⟨some 20, none, .mov (.t 2)⟩,
  ⟨some 21, none, .bin .add (.t 19) (.t 20)⟩,
  ⟨some 22, none, .sl 1 (.t 16) (some (.t 17)) (some (.t 21)) none⟩,
  ⟨some 23, none, .call n_slices_Clone_byte_byte [(.t 22)]⟩,
  ⟨some 6, none, .mov (.t 23)⟩,
  ⟨some 7, none, .mov (.c (.bool true))⟩])
  (.ret)
def c1_ram_Ram_Bytes : C :=
 .seq (.seq (.ops [⟨some 8, none, .mov (.t 0)⟩,
  ⟨some 9, none, .mov (.t 1)⟩,
  ⟨some 10, none, .mov (.t 2)⟩,
  ⟨some 11, none, .call n_ram_Ram_there [(.t 8), (.t 9), (.t 10)]⟩,
  ⟨some 12, none, .un .not (.t 11)⟩])
  (.cond (.t 12)
  (.seq (.ops [⟨some 6, none, .mov (.c (.slice none 0 0))⟩,
  ⟨some 7, none, .mov (.c (.bool false))⟩])
  (.ret))
  (.skip)))
  (c0_ram_Ram_Bytes)
def c_ram_Ram_Bytes : C :=
 .seq (.ops [⟨some 6, none, .mov (.c (.slice none 0 0))⟩,
  ⟨some 7, none, .mov (.c (.bool false))⟩])
  (c1_ram_Ram_Bytes)
def f_ram_Ram_Bytes : F := ⟨c_ram_Ram_Bytes, [.t 6, .t 7], some []⟩
theorem h_ram_Ram_Bytes : compF Try.prog (compAny Try.prog) n_ram_Ram_Bytes = some (f_ram_Ram_Bytes.body, f_ram_Ram_Bytes.res) := by kernel_rfl
/- (*pianola/dma.Dma).Write -/
def c0_dma_Dma_Write : C :=
 .ops [⟨some 38, none, .mov (.t 0)⟩,
  ⟨some 39, none, .nilc (.t 38)⟩,
  ⟨some 40, none, .fa 6 (.t 39)⟩,
  ⟨some 41, none, .ld (.t 40)⟩,
  ⟨some 42, none, .mov (.t 2)⟩,
  ⟨some 43, none, .bin .and (.t 42) (.c (.int .u32 6))⟩,
  ⟨some 44, none, .bin .andNot (.t 41) (.t 43)⟩,
  ⟨some 45, none, .nilc (.t 38)⟩,
  ⟨some 46, none, .fa 6 (.t 45)⟩,
  ⟨none, none, .st (.t 46) (.t 44)⟩]
def c1_dma_Dma_Write : C :=
 .cond (.t 28)
  (.seq (.ops [⟨some 30, none, .mov (.t 2)⟩,
  ⟨some 31, none, .bin .and (.t 30) (.c (.int .u32 1))⟩,
  ⟨some 32, none, .bin .neq (.t 31) (.c (.int .u32 0))⟩])
  (.cond (.t 32)
  (.ops [⟨some 33, none, .mov (.t 0)⟩,
  ⟨some 34, none, .mov (.t 3)⟩,
  ⟨some 35, none, .call n_dma_Dma_begin [(.t 33), (.t 34)]⟩])
  (.skip)))
  (.seq (.ops [⟨some 37, none, .bin .eql (.t 9) (.c (.int .u32 16))⟩,
  ⟨some 36, none, .mov (.t 37)⟩])
  (.cond (.t 36)
  (c0_dma_Dma_Write)
  (.seq (.ops [⟨some 8, none, .mov (.c (.bool false))⟩])
  (.ret))))
def c2_dma_Dma_Write : C :=
 .seq (.ops [⟨some 23, none, .bin .eql (.t 9) (.c (.int .u32 8))⟩,
  ⟨some 22, none, .mov (.t 23)⟩])
  (.cond (.t 22)
  (.ops [⟨some 24, none, .mov (.t 0)⟩,
  ⟨some 25, none, .mov (.t 2)⟩,
  ⟨some 26, none, .nilc (.t 24)⟩,
  ⟨some 27, none, .fa 5 (.t 26)⟩,
  ⟨none, none, .st (.t 27) (.t 25)⟩])
  (.seq (.ops [⟨some 29, none, .bin .eql (.t 9) (.c (.int .u32 12))⟩,
  ⟨some 28, none, .mov (.t 29)⟩])
  (c1_dma_Dma_Write)))
def c3_dma_Dma_Write : C :=
 .cond (.t 10)
  (.ops [⟨some 12, none, .mov (.t 0)⟩,
  ⟨some 13, none, .mov (.t 2)⟩,
  ⟨some 14, none, .nilc (.t 12)⟩,
  ⟨some 15, none, .fa 3 (.t 14)⟩,
  ⟨none, none, .st (.t 15) (.t 13)⟩])
  (.seq (.ops [⟨some 17, none, .bin .eql (.t 9) (.c (.int .u32 4))⟩,
  ⟨some 16, none, .mov (.t 17)⟩])
  (.cond (.t 16)
  (.ops [⟨some 18, none, .mov (.t 0)⟩,
  ⟨some 19, none, .mov (.t 2)⟩,
  ⟨some 20, none, .nilc (.t 18)⟩,
  ⟨some 21, none, .fa 4 (.t 20)⟩,
  ⟨none, none, .st (.t 21) (.t 19)⟩])
  (c2_dma_Dma_Write)))
def c_dma_Dma_Write : C :=
 .seq (.ops [⟨some 8, none, .mov (.c (.bool false))⟩])
  (.seq (.seq (.ops [⟨some 9, none, .mov (.t 1)⟩])
  (.block 0
  (.seq (.ops [⟨some 11, none, .bin .eql (.t 9) (.c (.int .u32 0))⟩,
  ⟨some 10, none, .mov (.t 11)⟩])
  (c3_dma_Dma_Write))))
  (.seq (.ops [⟨some 8, none, .mov (.c (.bool true))⟩])
  (.ret)))
def f_dma_Dma_Write : F := ⟨c_dma_Dma_Write, [.t 8], some []⟩
theorem h_dma_Dma_Write : compF Try.prog (compAny Try.prog) n_dma_Dma_Write = some (f_dma_Dma_Write.body, f_dma_Dma_Write.res) := by kernel_rfl
/- (*pianola/dma.Dma).Fire -/
def c0_dma_Dma_Fire : C :=
 .cond (.t 15)
  (.ops [⟨some 16, none, .mov (.t 0)⟩,
  ⟨some 17, none, .nilc (.t 16)⟩,
  ⟨some 18, none, .fa 6 (.t 17)⟩,
  ⟨some 19, none, .ld (.t 18)⟩,
  ⟨some 20, none, .bin .or (.t 19) (.c (.int .u32 4))⟩,
  ⟨some 21, none, .nilc (.t 16)⟩,
  ⟨some 22, none, .fa 6 (.t 21)⟩,
  ⟨none, none, .st (.t 22) (.t 20)⟩])
  (.skip)
def c_dma_Dma_Fire : C :=
 .seq (.ops [⟨some 4, none, .mov (.t 0)⟩,
  ⟨some 5, none, .mov (.t 0)⟩,
  ⟨some 6, none, .nilc (.t 5)⟩,
  ⟨some 7, none, .fa 6 (.t 6)⟩,
  ⟨some 8, none, .ld (.t 7)⟩,
  ⟨some 9, none, .bin .andNot (.t 8) (.c (.int .u32 1))⟩,
  ⟨some 10, none, .bin .or (.t 9) (.c (.int .u32 2))⟩,
  ⟨some 11, none, .nilc (.t 4)⟩,
  ⟨some 12, none, .fa 6 (.t 11)⟩,
  ⟨none, none, .st (.t 12) (.t 10)⟩])
  (.seq (.ops [⟨some 13, none, .mov (.t 0)⟩,
  ⟨some 14, none, .call n_dma_Dma_move [(.t 13)]⟩,
  ⟨some 15, none, .un .not (.t 14)⟩])
  (c0_dma_Dma_Fire))
def f_dma_Dma_Fire : F := ⟨c_dma_Dma_Fire, [], some []⟩
theorem h_dma_Dma_Fire : compF Try.prog (compAny Try.prog) n_dma_Dma_Fire = some (f_dma_Dma_Fire.body, f_dma_Dma_Fire.res) := by kernel_rfl
/- (*pianola/dma.Dma).Read -/
def c0_dma_Dma_Read : C :=
 .seq (.ops [⟨some 28, none, .bin .eql (.t 6) (.c (.int .u32 16))⟩,
  ⟨some 27, none, .mov (.t 28)⟩])
  (.cond (.t 27)
  (.seq (.ops [⟨some 29, none, .mov (.t 0)⟩,
  ⟨some 30, none, .nilc (.t 29)⟩,
  ⟨some 31, none, .fa 6 (.t 30)⟩,
  ⟨some 32, none, .ld (.t 31)⟩,
  ⟨some 4, none, .mov (.t 32)⟩,
  ⟨some 5, none, .mov (.c (.bool true))⟩])
  (.ret))
  (.skip))
def c1_dma_Dma_Read : C :=
 .cond (.t 19)
  (.seq (.ops [⟨some 21, none, .mov (.t 0)⟩,
  ⟨some 22, none, .nilc (.t 21)⟩,
  ⟨some 23, none, .fa 5 (.t 22)⟩,
  ⟨some 24, none, .ld (.t 23)⟩,
  ⟨some 4, none, .mov (.t 24)⟩,
  ⟨some 5, none, .mov (.c (.bool true))⟩])
  (.ret))
  (.seq (.ops [⟨some 26, none, .bin .eql (.t 6) (.c (.int .u32 12))⟩,
  ⟨some 25, none, .mov (.t 26)⟩])
  (.cond (.t 25)
  (.seq (.ops [⟨some 4, none, .mov (.c (.int .u32 0))⟩,
  ⟨some 5, none, .mov (.c (.bool true))⟩])
  (.ret))
  (c0_dma_Dma_Read)))
def c2_dma_Dma_Read : C :=
 .cond (.t 13)
  (.seq (.ops [⟨some 15, none, .mov (.t 0)⟩,
  ⟨some 16, none, .nilc (.t 15)⟩,
  ⟨some 17, none, .fa 4 (.t 16)⟩,
  ⟨some 18, none, .ld (.t 17)⟩,
  ⟨some 4, none, .mov (.t 18)⟩,
  ⟨some 5, none, .mov (.c (.bool true))⟩])
  (.ret))
  (.seq (.ops [⟨some 20, none, .bin .eql (.t 6) (.c (.int .u32 8))⟩,
  ⟨some 19, none, .mov (.t 20)⟩])
  (c1_dma_Dma_Read))
def c3_dma_Dma_Read : C :=
 .cond (.t 7)
  (.seq (.ops [⟨some 9, none, .mov (.t 0)⟩,
  ⟨some 10, none, .nilc (.t 9)⟩,
  ⟨some 11, none, .fa 3 (.t 10)⟩,
  ⟨some 12, none, .ld (.t 11)⟩,
  ⟨some 4, none, .mov (.t 12)⟩,
  ⟨some 5, none, .mov (.c (.bool true))⟩])
  (.ret))
  (.seq (.ops [⟨some 14, none, .bin .eql (.t 6) (.c (.int .u32 4))⟩,
  ⟨some 13, none, .mov (.t 14)⟩])
  (c2_dma_Dma_Read))
def c_dma_Dma_Read : C :=
 .seq (.ops [⟨some 4, none, .mov (.c (.int .u32 0))⟩,
  ⟨some 5, none, .mov (.c (.bool false))⟩])
  (.seq (.seq (.ops [⟨some 6, none, .mov (.t 1)⟩])
  (.block 0
  (.seq (.ops [⟨some 8, none, .bin .eql (.t 6) (.c (.int .u32 0))⟩,
  ⟨some 7, none, .mov (.t 8)⟩])
  (c3_dma_Dma_Read))))
  (.seq (.ops [⟨some 4, none, .mov (.c (.int .u32 0))⟩,
  ⟨some 5, none, .mov (.c (.bool false))⟩])
  (.ret)))
def f_dma_Dma_Read : F := ⟨c_dma_Dma_Read, [.t 4, .t 5], some []⟩
theorem h_dma_Dma_Read : compF Try.prog (compAny Try.prog) n_dma_Dma_Read = some (f_dma_Dma_Read.body, f_dma_Dma_Read.res) := by kernel_rfl
/- pianola/pianolalaw13.known -/
def c0_pianolalaw13_known : C :=
 .seq (.ops [⟨some 62, none, .mov (.t 5)⟩,
  ⟨some 63, none, .mov (.t 62)⟩,
  ⟨some 64, some (63, true), .mov (.t 6)⟩,
  ⟨some 65, some (63, true), .bin .eql (.t 64) (.c (.int .u32 16909060))⟩,
  ⟨some 66, none, .pick (.t 63) (.t 65) (.c (.bool false))⟩,
  ⟨some 67, none, .mov (.t 66)⟩,
  ⟨some 68, some (67, true), .mov (.t 8)⟩,
  ⟨some 69, some (67, true), .bin .eql (.t 68) (.c (.int .u32 2))⟩,
  ⟨some 70, none, .pick (.t 67) (.t 69) (.c (.bool false))⟩,
  ⟨some 71, none, .mov (.t 70)⟩,
  ⟨some 72, some (71, true), .mov (.t 9)⟩,
  ⟨some 73, none, .pick (.t 71) (.t 72) (.c (.bool false))⟩,
  ⟨some 74, none, .mov (.t 73)⟩,
  ⟨some 75, some (74, true), .mov (.t 3)⟩,
  ⟨some 76, some (74, true), .call n_dma_Dma_Line [(.t 75)]⟩,
  ⟨some 77, none, .pick (.t 74) (.t 76) (.c (.bool false))⟩,
  ⟨some 0, none, .mov (.t 77)⟩])
  (.ret)
def c1_pianolalaw13_known : C :=
 .seq (.ops [⟨some 53, none, .mov (.t 2)⟩,
  ⟨some 54, none, .call n_ram_Ram_Load [(.t 53), (.c (.int .u32 100)), (.c (.int .i64 4))]⟩,
  ⟨some 52, none, .mov (.t 54)⟩,
  ⟨some 55, none, .ext (.t 52) 0⟩,
  ⟨some 56, none, .ext (.t 52) 1⟩,
  ⟨some 6, none, .mov (.t 55)⟩,
  ⟨some 7, none, .mov (.t 56)⟩])
  (.seq (.ops [⟨some 58, none, .mov (.t 3)⟩,
  ⟨some 59, none, .call n_dma_Dma_Read [(.t 58), (.c (.int .u32 16))]⟩,
  ⟨some 57, none, .mov (.t 59)⟩,
  ⟨some 60, none, .ext (.t 57) 0⟩,
  ⟨some 61, none, .ext (.t 57) 1⟩,
  ⟨some 8, none, .mov (.t 60)⟩,
  ⟨some 9, none, .mov (.t 61)⟩])
  (c0_pianolalaw13_known))
def c2_pianolalaw13_known : C :=
 .seq (.ops [⟨some 44, none, .mov (.t 1)⟩,
  ⟨some 45, none, .call n_wheel_Wheel_Take [(.t 44), (.c (.int .i64 2))]⟩,
  ⟨some 43, none, .mov (.t 45)⟩,
  ⟨some 46, none, .ext (.t 43) 0⟩,
  ⟨some 47, none, .ext (.t 43) 1⟩,
  ⟨some 4, none, .new [(.int .i64 0), (.int .i64 0), (.int .i64 0)]⟩,
  ⟨none, none, .stn 3 (.t 4) (.t 46)⟩,
  ⟨some 5, none, .mov (.t 47)⟩])
  (.seq (.ops [⟨some 48, none, .mov (.t 3)⟩,
  ⟨some 49, none, .fa 0 (.t 4)⟩,
  ⟨some 50, none, .ld (.t 49)⟩,
  ⟨some 51, none, .call n_dma_Dma_Fire [(.t 48), (.t 50)]⟩])
  (c1_pianolalaw13_known))
def c3_pianolalaw13_known : C :=
 .seq (.ops [⟨some 37, none, .mov (.t 3)⟩,
  ⟨some 38, none, .call n_dma_Dma_Write [(.t 37), (.c (.int .u32 4)), (.c (.int .u32 100)), (.c (.int .i64 0))]⟩])
  (.seq (.ops [⟨some 39, none, .mov (.t 3)⟩,
  ⟨some 40, none, .call n_dma_Dma_Write [(.t 39), (.c (.int .u32 8)), (.c (.int .u32 4)), (.c (.int .i64 0))]⟩])
  (.seq (.ops [⟨some 41, none, .mov (.t 3)⟩,
  ⟨some 42, none, .call n_dma_Dma_Write [(.t 41), (.c (.int .u32 12)), (.c (.int .u32 1)), (.c (.int .i64 0))]⟩])
  (c2_pianolalaw13_known)))
def c4_pianolalaw13_known : C :=
 .seq (.seq (.ops [⟨some 15, none, .mov (.t 1)⟩,
  ⟨some 16, none, .eqn 0 false (.t 15)⟩,
  ⟨some 17, none, .mov (.t 16)⟩,
  ⟨some 18, some (17, false), .mov (.t 2)⟩,
  ⟨some 19, some (17, false), .eqn 0 false (.t 18)⟩,
  ⟨some 20, none, .pick (.t 17) (.c (.bool true)) (.t 19)⟩,
  ⟨some 21, none, .mov (.t 20)⟩,
  ⟨some 22, some (21, false), .mov (.t 3)⟩,
  ⟨some 23, some (21, false), .eqn 0 false (.t 22)⟩,
  ⟨some 24, none, .pick (.t 21) (.c (.bool true)) (.t 23)⟩,
  ⟨some 25, none, .mov (.t 24)⟩,
  ⟨some 26, some (25, false), .mov (.t 1)⟩,
  ⟨some 27, some (25, false), .call n_dma_New [(.c (.int .i64 4)), (.t 26), (.c (.pointer none))]⟩,
  ⟨some 28, some (25, false), .eqn 0 true (.t 27)⟩,
  ⟨some 29, none, .pick (.t 25) (.c (.bool true)) (.t 28)⟩,
  ⟨some 30, none, .mov (.t 29)⟩,
  ⟨some 31, some (30, false), .mov (.t 2)⟩,
  ⟨some 32, some (30, false), .call n_ram_Ram_Store [(.t 31), (.c (.int .u32 8)), (.c (.int .i64 4)), (.c (.int .u32 16909060))]⟩,
  ⟨some 33, some (30, false), .un .not (.t 32)⟩,
  ⟨some 34, none, .pick (.t 30) (.c (.bool true)) (.t 33)⟩])
  (.cond (.t 34)
  (.seq (.ops [⟨some 0, none, .mov (.c (.bool false))⟩])
  (.ret))
  (.skip)))
  (.seq (.ops [⟨some 35, none, .mov (.t 3)⟩,
  ⟨some 36, none, .call n_dma_Dma_Write [(.t 35), (.c (.int .u32 0)), (.c (.int .u32 8)), (.c (.int .i64 0))]⟩])
  (c3_pianolalaw13_known))
def c5_pianolalaw13_known : C :=
 .seq (.ops [⟨some 10, none, .call n_wheel_New []⟩,
  ⟨some 11, none, .call n_ram_New [(.c (.int .i64 1))]⟩,
  ⟨some 1, none, .mov (.t 10)⟩,
  ⟨some 2, none, .mov (.t 11)⟩])
  (.seq (.ops [⟨some 12, none, .mov (.t 1)⟩,
  ⟨some 13, none, .mov (.t 2)⟩,
  ⟨some 14, none, .call n_dma_New [(.c (.int .i64 4)), (.t 12), (.t 13)]⟩,
  ⟨some 3, none, .mov (.t 14)⟩])
  (c4_pianolalaw13_known))
def c_pianolalaw13_known : C :=
 .seq (.ops [⟨some 0, none, .mov (.c (.bool false))⟩])
  (c5_pianolalaw13_known)
def f_pianolalaw13_known : F := ⟨c_pianolalaw13_known, [.t 0], some []⟩
theorem h_pianolalaw13_known : compF Try.prog (compAny Try.prog) n_pianolalaw13_known = some (f_pianolalaw13_known.body, f_pianolalaw13_known.res) := by kernel_rfl
/- pianola/pianolalaw13.play -/
def c0_pianolalaw13_play : C :=
 .seq (.ops [⟨some 63, none, .mov (.t 13)⟩,
  ⟨some 64, none, .bin .rem (.t 63) (.c (.int .u32 2200))⟩,
  ⟨some 13, none, .mov (.t 64)⟩])
  (.seq (.ops [⟨some 65, none, .mov (.t 12)⟩,
  ⟨some 66, none, .bin .eql (.t 65) (.c (.int .u32 8))⟩])
  (.cond (.t 66)
  (.ops [⟨some 67, none, .mov (.t 13)⟩,
  ⟨some 68, none, .bin .rem (.t 67) (.c (.int .u32 300))⟩,
  ⟨some 13, none, .mov (.t 68)⟩])
  (.skip)))
def c1_pianolalaw13_play : C :=
 .seq (.ops [⟨some 97, none, .mov (.t 14)⟩,
  ⟨some 98, none, .mov (.t 16)⟩,
  ⟨some 99, none, .bin .neq (.t 97) (.t 98)⟩,
  ⟨some 100, none, .mov (.t 99)⟩,
  ⟨some 101, some (100, false), .mov (.t 15)⟩,
  ⟨some 102, some (100, false), .mov (.t 17)⟩,
  ⟨some 103, some (100, false), .eqb true (.t 101) (.t 102)⟩,
  ⟨some 104, none, .pick (.t 100) (.c (.bool true)) (.t 103)⟩])
  (.cond (.t 104)
  (.seq (.ops [⟨some 4, none, .mov (.c (.bool false))⟩])
  (.ret))
  (.skip))
def c2_pianolalaw13_play : C :=
 .seq (.ops [⟨some 91, none, .mov (.t 8)⟩,
  ⟨some 92, none, .mov (.t 12)⟩,
  ⟨some 93, none, .mov (.t 9)⟩,
  ⟨some 94, none, .call n_pianolaref15_Bus_Word [(.t 91), (.c (.int .i64 4)), (.t 92), (.t 93)]⟩,
  ⟨some 90, none, .mov (.t 94)⟩,
  ⟨some 95, none, .ext (.t 90) 0⟩,
  ⟨some 96, none, .ext (.t 90) 1⟩,
  ⟨some 16, none, .mov (.t 95)⟩,
  ⟨some 17, none, .mov (.t 96)⟩])
  (c1_pianolalaw13_play)
def c3_pianolalaw13_play : C :=
 .seq (.ops [⟨some 123, none, .mov (.t 8)⟩,
  ⟨some 124, none, .nilc (.t 123)⟩,
  ⟨some 125, none, .fa 1 (.t 124)⟩,
  ⟨some 126, none, .mov (.t 9)⟩,
  ⟨some 127, none, .call n_pianolaref9_Wheel_Take [(.t 125), (.t 126)]⟩,
  ⟨some 122, none, .mov (.t 127)⟩,
  ⟨some 128, none, .ext (.t 122) 0⟩,
  ⟨some 129, none, .ext (.t 122) 1⟩,
  ⟨some 21, none, .new [(.int .i64 0), (.int .i64 0), (.int .i64 0)]⟩,
  ⟨none, none, .stn 3 (.t 21) (.t 128)⟩,
  ⟨some 22, none, .mov (.t 129)⟩])
  (.seq (.ops [⟨some 130, none, .mov (.t 22)⟩])
  (.cond (.t 130)
  (.ops [⟨some 131, none, .mov (.t 8)⟩,
  ⟨some 132, none, .ldn 3 (.t 21)⟩,
  ⟨some 133, none, .call n_pianolaref15_Bus_B1 [(.t 131), (.t 132)]⟩])
  (.skip)))
def c4_pianolalaw13_play : C :=
 .seq (.block 4
  (.seq (.seq (.ops [⟨some 112, none, .mov (.t 5)⟩,
  ⟨some 113, none, .mov (.t 9)⟩,
  ⟨some 114, none, .call n_wheel_Wheel_Take [(.t 112), (.t 113)]⟩,
  ⟨some 111, none, .mov (.t 114)⟩,
  ⟨some 115, none, .ext (.t 111) 0⟩,
  ⟨some 116, none, .ext (.t 111) 1⟩,
  ⟨some 19, none, .new [(.int .i64 0), (.int .i64 0), (.int .i64 0)]⟩,
  ⟨none, none, .stn 3 (.t 19) (.t 115)⟩,
  ⟨some 20, none, .mov (.t 116)⟩])
  (.seq (.ops [⟨some 117, none, .mov (.t 20)⟩])
  (.cond (.t 117)
  (.ops [⟨some 118, none, .mov (.t 7)⟩,
  ⟨some 119, none, .fa 0 (.t 19)⟩,
  ⟨some 120, none, .ld (.t 119)⟩,
  ⟨some 121, none, .call n_dma_Dma_Fire [(.t 118), (.t 120)]⟩])
  (.skip))))
  (c3_pianolalaw13_play)))
  (.ops [⟨some 109, none, .mov (.t 18)⟩,
  ⟨some 110, none, .bin .add (.t 109) (.c (.int .i64 1))⟩,
  ⟨some 18, none, .mov (.t 110)⟩])
def c5_pianolalaw13_play : C :=
 .seq (.seq (.ops [⟨some 107, none, .mov (.t 18)⟩,
  ⟨some 108, none, .bin .lss (.t 107) (.c (.int .i64 3))⟩])
  (.cond (.t 108)
  (.skip)
  (.exit 3)))
  (c4_pianolalaw13_play)
def c6_pianolalaw13_play : C :=
 .any 0 [.op 0 ⟨some 151, none, .mov (.t 8)⟩,
  .op 1 ⟨some 152, none, .nilc (.t 151)⟩,
  .op 2 ⟨some 153, none, .fa 0 (.t 152)⟩,
  .op 3 ⟨some 154, none, .ld (.t 153)⟩,
  .op 4 ⟨some 155, none, .fa 2 (.t 11)⟩,
  .op 5 ⟨some 156, none, .ld (.t 155)⟩,
  .op 7 ⟨some 158, none, .fa 4 (.t 11)⟩,
  .op 8 ⟨some 159, none, .ld (.t 158)⟩,
  .op 6 ⟨some 157, none, .bin .rem (.t 156) (.c (.int .u32 2048))⟩,
  .op 9 ⟨some 160, none, .conv .u32 (.t 159)⟩,
  .op 10 ⟨some 161, none, .call n_pianolaref2_Ram_Store [(.t 154), (.t 157), (.c (.int .i64 1)), (.t 160)]⟩]
def c7_pianolalaw13_play : C :=
 .seq (.ops [⟨some 143, none, .mov (.t 6)⟩,
  ⟨some 144, none, .fa 2 (.t 11)⟩,
  ⟨some 145, none, .ld (.t 144)⟩,
  ⟨some 146, none, .bin .rem (.t 145) (.c (.int .u32 2048))⟩,
  ⟨some 147, none, .fa 4 (.t 11)⟩,
  ⟨some 148, none, .ld (.t 147)⟩,
  ⟨some 149, none, .conv .u32 (.t 148)⟩,
  ⟨some 150, none, .call n_ram_Ram_Store [(.t 143), (.t 146), (.c (.int .i64 1)), (.t 149)]⟩])
  (c6_pianolalaw13_play)
def c8_pianolalaw13_play : C :=
 .seq (.ops [⟨some 71, none, .mov (.t 7)⟩,
  ⟨some 72, none, .mov (.t 12)⟩,
  ⟨some 73, none, .mov (.t 13)⟩,
  ⟨some 74, none, .mov (.t 9)⟩,
  ⟨some 75, none, .call n_dma_Dma_Write [(.t 71), (.t 72), (.t 73), (.t 74)]⟩,
  ⟨some 76, none, .mov (.t 8)⟩,
  ⟨some 77, none, .mov (.t 12)⟩,
  ⟨some 78, none, .mov (.t 13)⟩,
  ⟨some 79, none, .mov (.t 9)⟩,
  ⟨some 80, none, .call n_pianolaref15_Bus_Set [(.t 76), (.c (.int .i64 4)), (.t 77), (.t 78), (.t 79)]⟩,
  ⟨some 81, none, .eqb true (.t 75) (.t 80)⟩])
  (.cond (.t 81)
  (.seq (.ops [⟨some 4, none, .mov (.c (.bool false))⟩])
  (.ret))
  (.skip))
def c9_pianolalaw13_play : C :=
 .cond (.t 134)
  (.ops [⟨some 136, none, .mov (.t 9)⟩,
  ⟨some 137, none, .fa 3 (.t 11)⟩,
  ⟨some 138, none, .ld (.t 137)⟩,
  ⟨some 139, none, .call n_pianolabook_Within [(.t 138), (.c (.int .i64 0)), (.c (.int .i64 1100))]⟩,
  ⟨some 140, none, .bin .add (.t 136) (.t 139)⟩,
  ⟨some 9, none, .mov (.t 140)⟩])
  (.seq (.ops [⟨some 142, none, .bin .eql (.t 70) (.c (.int .i64 5))⟩,
  ⟨some 141, none, .mov (.t 142)⟩])
  (.cond (.t 141)
  (c7_pianolalaw13_play)
  (c8_pianolalaw13_play)))
def c10_pianolalaw13_play : C :=
 .seq (.ops [⟨some 106, none, .bin .eql (.t 70) (.c (.int .i64 3))⟩,
  ⟨some 105, none, .mov (.t 106)⟩])
  (.cond (.t 105)
  (.seq (.ops [⟨some 18, none, .mov (.c (.int .i64 0))⟩])
  (.block 3
  (.loop c5_pianolalaw13_play)))
  (.seq (.ops [⟨some 135, none, .bin .eql (.t 70) (.c (.int .i64 4))⟩,
  ⟨some 134, none, .mov (.t 135)⟩])
  (c9_pianolalaw13_play)))
def c11_pianolalaw13_play : C :=
 .cond (.t 82)
  (.seq (.ops [⟨some 85, none, .mov (.t 7)⟩,
  ⟨some 86, none, .mov (.t 12)⟩,
  ⟨some 87, none, .call n_dma_Dma_Read [(.t 85), (.t 86)]⟩,
  ⟨some 84, none, .mov (.t 87)⟩,
  ⟨some 88, none, .ext (.t 84) 0⟩,
  ⟨some 89, none, .ext (.t 84) 1⟩,
  ⟨some 14, none, .mov (.t 88)⟩,
  ⟨some 15, none, .mov (.t 89)⟩])
  (c2_pianolalaw13_play))
  (c10_pianolalaw13_play)
def c12_pianolalaw13_play : C :=
 .seq (.any 0 [.op 0 ⟨some 162, none, .mov (.t 7)⟩,
  .op 1 ⟨some 163, none, .call n_dma_Dma_Line [(.t 162)]⟩,
  .op 2 ⟨some 164, none, .mov (.t 8)⟩,
  .op 3 ⟨some 165, none, .call n_pianolaref15_Bus_Line [(.t 164), (.c (.int .i64 4))]⟩,
  .op 4 ⟨some 166, none, .eqb true (.t 163) (.t 165)⟩,
  .op 5 ⟨some 167, none, .mov (.t 166)⟩,
  .op 8 ⟨some 170, some (167, false), .mov (.t 8)⟩,
  .op 9 ⟨some 171, some (167, false), .nilc (.t 170)⟩,
  .op 10 ⟨some 172, some (167, false), .fa 1 (.t 171)⟩,
  .op 11 ⟨some 173, some (167, false), .fa 0 (.t 172)⟩,
  .op 12 ⟨some 174, some (167, false), .ld (.t 173)⟩,
  .op 6 ⟨some 168, some (167, false), .mov (.t 5)⟩,
  .op 7 ⟨some 169, some (167, false), .call n_wheel_Wheel_All [(.t 168)]⟩,
  .re 12 ⟨some 174, some (167, false), .ld (.t 173)⟩,
  .op 13 ⟨some 175, some (167, false), .call n_pianolabook_Same_api_Event [(.t 169), (.t 174)]⟩,
  .op 14 ⟨some 176, some (167, false), .un .not (.t 175)⟩,
  .op 15 ⟨some 177, none, .pick (.t 167) (.c (.bool true)) (.t 176)⟩])
  (.cond (.t 177)
  (.seq (.ops [⟨some 4, none, .mov (.c (.bool false))⟩])
  (.ret))
  (.skip))
def c13_pianolalaw13_play : C :=
 .seq (.seq (.ops [⟨some 62, none, .mov (.t 1)⟩])
  (.cond (.t 62)
  (c0_pianolalaw13_play)
  (.skip)))
  (.seq (.seq (.ops [⟨some 69, none, .fa 0 (.t 11)⟩,
  ⟨some 70, none, .ld (.t 69)⟩])
  (.block 2
  (.seq (.ops [⟨some 83, none, .bin .eql (.t 70) (.c (.int .i64 2))⟩,
  ⟨some 82, none, .mov (.t 83)⟩])
  (c11_pianolalaw13_play))))
  (c12_pianolalaw13_play))
def c14_pianolalaw13_play : C :=
 .seq (.ops [⟨some 55, none, .fa 1 (.t 11)⟩,
  ⟨some 56, none, .ld (.t 55)⟩,
  ⟨some 57, none, .call n_pianolabook_Within [(.t 56), (.c (.int .i64 0)), (.c (.int .i64 6))]⟩,
  ⟨some 58, none, .conv .u32 (.t 57)⟩,
  ⟨some 59, none, .bin .mul (.t 58) (.c (.int .u32 4))⟩,
  ⟨some 12, none, .mov (.t 59)⟩])
  (.seq (.ops [⟨some 60, none, .fa 2 (.t 11)⟩,
  ⟨some 61, none, .ld (.t 60)⟩,
  ⟨some 13, none, .mov (.t 61)⟩])
  (c13_pianolalaw13_play))
def c15_pianolalaw13_play : C :=
 .seq (.block 1
  (.seq (.seq (.ops [⟨some 41, none, .mov (.t 5)⟩,
  ⟨some 42, none, .eqn 0 false (.t 41)⟩,
  ⟨some 43, none, .mov (.t 42)⟩,
  ⟨some 44, some (43, false), .mov (.t 6)⟩,
  ⟨some 45, some (43, false), .eqn 0 false (.t 44)⟩,
  ⟨some 46, none, .pick (.t 43) (.c (.bool true)) (.t 45)⟩,
  ⟨some 47, none, .mov (.t 46)⟩,
  ⟨some 48, some (47, false), .mov (.t 7)⟩,
  ⟨some 49, some (47, false), .eqn 0 false (.t 48)⟩,
  ⟨some 50, none, .pick (.t 47) (.c (.bool true)) (.t 49)⟩])
  (.cond (.t 50)
  (.seq (.ops [⟨some 4, none, .mov (.c (.bool false))⟩])
  (.ret))
  (.skip)))
  (.seq (.ops [⟨some 51, none, .mov (.t 0)⟩,
  ⟨some 52, none, .mov (.t 10)⟩,
  ⟨some 53, none, .ia 5 (.t 51) (.t 52)⟩,
  ⟨some 54, none, .ldn 5 (.t 53)⟩,
  ⟨some 11, none, .new [(.int .i64 0), (.int .i64 0), (.int .u32 0), (.int .i64 0), (.int .u8 0)]⟩,
  ⟨none, none, .stn 5 (.t 11) (.t 54)⟩])
  (c14_pianolalaw13_play))))
  (.ops [⟨some 39, none, .mov (.t 10)⟩,
  ⟨some 40, none, .bin .add (.t 39) (.c (.int .i64 1))⟩,
  ⟨some 10, none, .mov (.t 40)⟩])
def c16_pianolalaw13_play : C :=
 .seq (.seq (.ops [⟨some 31, none, .mov (.t 10)⟩,
  ⟨some 32, none, .mov (.t 0)⟩,
  ⟨some 33, none, .len 1 (.t 32)⟩,
  ⟨some 34, none, .bin .lss (.t 31) (.t 33)⟩,
  ⟨some 35, none, .mov (.t 34)⟩,
  ⟨some 36, some (35, true), .mov (.t 10)⟩,
  ⟨some 37, some (35, true), .bin .lss (.t 36) (.c (.int .i64 80))⟩,
  ⟨some 38, none, .pick (.t 35) (.t 37) (.c (.bool false))⟩])
  (.cond (.t 38)
  (.skip)
  (.exit 0)))
  (c15_pianolalaw13_play)
def c17_pianolalaw13_play : C :=
 .seq (.any 0 [.op 0 ⟨some 183, none, .mov (.t 24)⟩,
  .op 1 ⟨some 184, none, .mov (.t 183)⟩,
  .op 2 ⟨some 185, some (184, true), .mov (.t 23)⟩,
  .op 3 ⟨some 186, some (184, true), .b2s (.t 185)⟩,
  .op 4 ⟨some 187, some (184, true), .mov (.t 8)⟩,
  .op 5 ⟨some 188, some (184, true), .nilc (.t 187)⟩,
  .op 6 ⟨some 189, some (184, true), .fa 0 (.t 188)⟩,
  .op 7 ⟨some 190, some (184, true), .ld (.t 189)⟩,
  .op 8 ⟨some 191, some (184, true), .nilc (.t 190)⟩,
  .op 9 ⟨some 192, some (184, true), .fa 0 (.t 191)⟩,
  .op 10 ⟨some 193, some (184, true), .ld (.t 192)⟩,
  .op 11 ⟨some 194, some (184, true), .b2s (.t 193)⟩,
  .op 12 ⟨some 195, some (184, true), .bin .eql (.t 186) (.t 194)⟩,
  .op 13 ⟨some 196, none, .pick (.t 184) (.t 195) (.c (.bool false))⟩,
  .op 14 ⟨some 4, none, .mov (.t 196)⟩])
  (.ret)
def c18_pianolalaw13_play : C :=
 .seq (.ops [⟨some 179, none, .mov (.t 6)⟩,
  ⟨some 180, none, .call n_ram_Ram_Bytes [(.t 179), (.c (.int .u32 0)), (.c (.int .i64 2048))]⟩,
  ⟨some 178, none, .mov (.t 180)⟩,
  ⟨some 181, none, .ext (.t 178) 0⟩,
  ⟨some 182, none, .ext (.t 178) 1⟩,
  ⟨some 23, none, .mov (.t 181)⟩,
  ⟨some 24, none, .mov (.t 182)⟩])
  (c17_pianolalaw13_play)
def c19_pianolalaw13_play : C :=
 .seq (.ops [⟨some 30, none, .call n_pianolaref15_New [(.c (.int .i64 2)), (.c (.slice none 0 0)), (.c (.slice none 0 0))]⟩,
  ⟨some 8, none, .mov (.t 30)⟩])
  (.seq (.ops [⟨some 9, none, .mov (.c (.int .i64 0))⟩])
  (.seq (.seq (.ops [⟨some 10, none, .mov (.c (.int .i64 0))⟩])
  (.block 0
  (.loop c16_pianolalaw13_play)))
  (c18_pianolalaw13_play)))
def c20_pianolalaw13_play : C :=
 .seq (.ops [⟨some 25, none, .call n_wheel_New []⟩,
  ⟨some 26, none, .call n_ram_New [(.c (.int .i64 2))]⟩,
  ⟨some 5, none, .mov (.t 25)⟩,
  ⟨some 6, none, .mov (.t 26)⟩])
  (.seq (.ops [⟨some 27, none, .mov (.t 5)⟩,
  ⟨some 28, none, .mov (.t 6)⟩,
  ⟨some 29, none, .call n_dma_New [(.c (.int .i64 4)), (.t 27), (.t 28)]⟩,
  ⟨some 7, none, .mov (.t 29)⟩])
  (c19_pianolalaw13_play))
def c_pianolalaw13_play : C :=
 .seq (.ops [⟨some 4, none, .mov (.c (.bool false))⟩])
  (c20_pianolalaw13_play)
def f_pianolalaw13_play : F := ⟨c_pianolalaw13_play, [.t 4], some []⟩
theorem h_pianolalaw13_play : compF Try.prog (compAny Try.prog) n_pianolalaw13_play = some (f_pianolalaw13_play.body, f_pianolalaw13_play.res) := by kernel_rfl
/- pianola/bus.New -/
def c0_bus_New : C :=
 .seq (.ops [⟨some 22, none, .mov (.t 7)⟩,
  ⟨some 23, none, .mov (.t 8)⟩,
  ⟨some 24, none, .call n_lines_New []⟩,
  ⟨some 25, none, .mov (.t 8)⟩,
  ⟨some 26, none, .call n_timer_New [(.c (.int .i64 1)), (.t 25)]⟩,
  ⟨some 27, none, .mov (.t 8)⟩,
  ⟨some 28, none, .call n_timer_New [(.c (.int .i64 2)), (.t 27)]⟩,
  ⟨some 29, none, .mov (.t 8)⟩,
  ⟨some 30, none, .call n_uart_New [(.c (.int .i64 3)), (.t 29)]⟩,
  ⟨some 31, none, .mov (.t 8)⟩,
  ⟨some 32, none, .mov (.t 7)⟩,
  ⟨some 33, none, .call n_dma_New [(.c (.int .i64 4)), (.t 31), (.t 32)]⟩,
  ⟨some 34, none, .mov (.t 8)⟩,
  ⟨some 35, none, .mov (.t 7)⟩,
  ⟨some 36, none, .mov (.t 2)⟩,
  ⟨some 37, none, .call n_disk_New [(.c (.int .i64 5)), (.t 34), (.t 35), (.t 36)]⟩,
  ⟨some 38, none, .build [(.pointer none), (.pointer none), (.pointer none), (.pointer none), (.pointer none), (.pointer none), (.pointer none), (.pointer none)] [(0, 1, (.t 22)), (1, 1, (.t 23)), (2, 1, (.t 24)), (3, 1, (.t 26)), (4, 1, (.t 28)), (5, 1, (.t 30)), (6, 1, (.t 33)), (7, 1, (.t 37))]⟩,
  ⟨some 39, none, .box (.t 38)⟩,
  ⟨some 6, none, .mov (.t 39)⟩])
  (.ret)
def c1_bus_New : C :=
 .seq (.ops [⟨some 12, none, .mov (.t 7)⟩,
  ⟨some 13, none, .mov (.t 1)⟩,
  ⟨some 14, none, .mov (.t 1)⟩,
  ⟨some 15, none, .len 1 (.t 14)⟩,
  ⟨some 16, none, .mov (.t 7)⟩,
  ⟨some 17, none, .call n_ram_Ram_Size [(.t 16)]⟩,
  ⟨some 18, none, .conv .i64 (.t 17)⟩,
  ⟨some 19, none, .mn (.t 15) (.t 18)⟩,
  ⟨some 20, none, .sl 1 (.t 13) none (some (.t 19)) none⟩,
  ⟨some 21, none, .call n_ram_Ram_Put [(.t 12), (.c (.int .u32 0)), (.t 20)]⟩])
  (c0_bus_New)
def c_bus_New : C :=
 .seq (.ops [⟨some 6, none, .mov (.c (.pointer none))⟩])
  (.seq (.ops [⟨some 9, none, .mov (.t 0)⟩,
  ⟨some 10, none, .call n_ram_New [(.t 9)]⟩,
  ⟨some 11, none, .call n_wheel_New []⟩,
  ⟨some 7, none, .mov (.t 10)⟩,
  ⟨some 8, none, .mov (.t 11)⟩])
  (c1_bus_New))
def f_bus_New : F := ⟨c_bus_New, [.t 6], some []⟩
theorem h_bus_New : compF Try.prog (compAny Try.prog) n_bus_New = some (f_bus_New.body, f_bus_New.res) := by kernel_rfl
/- (*pianola/bus.Bus).Store -/
def c0_bus_Bus_Store : C :=
 .seq (.ops [⟨some 21, none, .mov (.t 0)⟩,
  ⟨some 22, none, .nilc (.t 21)⟩,
  ⟨some 23, none, .fa 0 (.t 22)⟩,
  ⟨some 24, none, .ld (.t 23)⟩,
  ⟨some 25, none, .mov (.t 1)⟩,
  ⟨some 26, none, .mov (.t 2)⟩,
  ⟨some 27, none, .mov (.t 3)⟩,
  ⟨some 28, none, .call n_ram_Ram_Store [(.t 24), (.t 25), (.t 26), (.t 27)]⟩,
  ⟨some 10, none, .mov (.t 28)⟩])
  (.ret)
def c1_bus_Bus_Store : C :=
 .seq (.ops [⟨some 38, none, .mov (.t 0)⟩,
  ⟨some 39, none, .mov (.t 11)⟩,
  ⟨some 40, none, .mov (.t 12)⟩,
  ⟨some 41, none, .mov (.t 3)⟩,
  ⟨some 42, none, .mov (.t 4)⟩,
  ⟨some 43, none, .call n_bus_Bus_write [(.t 38), (.t 39), (.t 40), (.t 41), (.t 42)]⟩,
  ⟨some 13, none, .mov (.t 43)⟩])
  (.seq (.ops [⟨some 44, none, .mov (.t 0)⟩,
  ⟨some 45, none, .call n_bus_Bus_gather [(.t 44)]⟩])
  (.seq (.ops [⟨some 46, none, .mov (.t 13)⟩,
  ⟨some 10, none, .mov (.t 46)⟩])
  (.ret)))
def c2_bus_Bus_Store : C :=
 .seq (.ops [⟨some 30, none, .mov (.t 1)⟩,
  ⟨some 31, none, .mov (.t 2)⟩,
  ⟨some 32, none, .call n_bus_window [(.t 30), (.t 31)]⟩,
  ⟨some 29, none, .mov (.t 32)⟩,
  ⟨some 33, none, .ext (.t 29) 0⟩,
  ⟨some 34, none, .ext (.t 29) 1⟩,
  ⟨some 35, none, .ext (.t 29) 2⟩,
  ⟨some 11, none, .mov (.t 33)⟩,
  ⟨some 12, none, .mov (.t 34)⟩,
  ⟨some 13, none, .mov (.t 35)⟩])
  (.seq (.seq (.ops [⟨some 36, none, .mov (.t 13)⟩,
  ⟨some 37, none, .un .not (.t 36)⟩])
  (.cond (.t 37)
  (.seq (.ops [⟨some 10, none, .mov (.c (.bool false))⟩])
  (.ret))
  (.skip)))
  (c1_bus_Bus_Store))
def c3_bus_Bus_Store : C :=
 .seq (.seq (.ops [⟨some 14, none, .mov (.t 1)⟩,
  ⟨some 15, none, .mov (.t 0)⟩,
  ⟨some 16, none, .nilc (.t 15)⟩,
  ⟨some 17, none, .fa 0 (.t 16)⟩,
  ⟨some 18, none, .ld (.t 17)⟩,
  ⟨some 19, none, .call n_ram_Ram_Size [(.t 18)]⟩,
  ⟨some 20, none, .bin .lss (.t 14) (.t 19)⟩])
  (.cond (.t 20)
  (c0_bus_Bus_Store)
  (.skip)))
  (c2_bus_Bus_Store)
def c_bus_Bus_Store : C :=
 .seq (.ops [⟨some 10, none, .mov (.c (.bool false))⟩])
  (c3_bus_Bus_Store)
def f_bus_Bus_Store : F := ⟨c_bus_Bus_Store, [.t 10], some []⟩
theorem h_bus_Bus_Store : compF Try.prog (compAny Try.prog) n_bus_Bus_Store = some (f_bus_Bus_Store.body, f_bus_Bus_Store.res) := by kernel_rfl
/- (*pianola/bus.Bus).Fire -/
def c0_bus_Bus_Fire : C :=
 .seq (.seq (.ops [⟨some 19, none, .mov (.t 7)⟩,
  ⟨some 20, none, .un .not (.t 19)⟩])
  (.cond (.t 20)
  (.exit 0)
  (.skip)))
  (.seq (.ops [⟨some 21, none, .mov (.t 0)⟩,
  ⟨some 22, none, .ldn 3 (.t 6)⟩,
  ⟨some 23, none, .call n_bus_Bus_fire [(.t 21), (.t 22)]⟩])
  (.ops [⟨some 24, none, .mov (.t 5)⟩,
  ⟨some 25, none, .bin .add (.t 24) (.c (.int .i64 1))⟩,
  ⟨some 5, none, .mov (.t 25)⟩]))
def c1_bus_Bus_Fire : C :=
 .block 1
  (.seq (.ops [⟨some 11, none, .mov (.t 0)⟩,
  ⟨some 12, none, .nilc (.t 11)⟩,
  ⟨some 13, none, .fa 1 (.t 12)⟩,
  ⟨some 14, none, .ld (.t 13)⟩,
  ⟨some 15, none, .mov (.t 1)⟩,
  ⟨some 16, none, .call n_wheel_Wheel_Take [(.t 14), (.t 15)]⟩,
  ⟨some 10, none, .mov (.t 16)⟩,
  ⟨some 17, none, .ext (.t 10) 0⟩,
  ⟨some 18, none, .ext (.t 10) 1⟩,
  ⟨some 6, none, .new [(.int .i64 0), (.int .i64 0), (.int .i64 0)]⟩,
  ⟨none, none, .stn 3 (.t 6) (.t 17)⟩,
  ⟨some 7, none, .mov (.t 18)⟩])
  (c0_bus_Bus_Fire))
def c2_bus_Bus_Fire : C :=
 .seq (.seq (.ops [⟨some 8, none, .mov (.t 5)⟩,
  ⟨some 9, none, .bin .lss (.t 8) (.c (.int .i64 256))⟩])
  (.cond (.t 9)
  (.skip)
  (.exit 0)))
  (c1_bus_Bus_Fire)
def c_bus_Bus_Fire : C :=
 .seq (.ops [⟨some 4, none, .mov (.c (.int .i64 0))⟩])
  (.seq (.ops [⟨some 5, none, .mov (.c (.int .i64 0))⟩])
  (.seq (.skip)
  (.seq (.block 0
  (.loop c2_bus_Bus_Fire))
  (.seq (.ops [⟨some 26, none, .mov (.t 0)⟩,
  ⟨some 27, none, .call n_bus_Bus_gather [(.t 26)]⟩])
  (.seq (.ops [⟨some 28, none, .mov (.t 5)⟩,
  ⟨some 4, none, .mov (.t 28)⟩])
  (.ret))))))
def f_bus_Bus_Fire : F := ⟨c_bus_Bus_Fire, [.t 4], some []⟩
theorem h_bus_Bus_Fire : compF Try.prog (compAny Try.prog) n_bus_Bus_Fire = some (f_bus_Bus_Fire.body, f_bus_Bus_Fire.res) := by kernel_rfl
/- (*pianola/bus.Bus).Raised -/
def c_bus_Bus_Raised : C :=
 .seq (.ops [⟨some 2, none, .mov (.c (.bool false))⟩])
  (.seq (.ops [⟨some 3, none, .mov (.t 0)⟩,
  ⟨some 4, none, .nilc (.t 3)⟩,
  ⟨some 5, none, .fa 2 (.t 4)⟩,
  ⟨some 6, none, .ld (.t 5)⟩,
  ⟨some 7, none, .call n_lines_Lines_Raised [(.t 6)]⟩,
  ⟨some 2, none, .mov (.t 7)⟩])
  (.ret))
def f_bus_Bus_Raised : F := ⟨c_bus_Bus_Raised, [.t 2], some []⟩
theorem h_bus_Bus_Raised : compF Try.prog (compAny Try.prog) n_bus_Bus_Raised = some (f_bus_Bus_Raised.body, f_bus_Bus_Raised.res) := by kernel_rfl
/- (*pianola/bus.Bus).Next -/
def c0_bus_Bus_Next : C :=
 .seq (.ops [⟨some 4, none, .mov (.t 0)⟩,
  ⟨some 5, none, .nilc (.t 4)⟩,
  ⟨some 6, none, .fa 1 (.t 5)⟩,
  ⟨some 7, none, .ld (.t 6)⟩,
  ⟨some 8, none, .call n_wheel_Wheel_Next [(.t 7)]⟩,
  ⟨some 9, none, .ext (.t 8) 0⟩,
  ⟨some 10, none, .ext (.t 8) 1⟩,
  ⟨some 2, none, .mov (.t 9)⟩,
  ⟨some 3, none, .mov (.t 10)⟩])
  (.ret)
def c_bus_Bus_Next : C :=
 .seq (.ops [⟨some 2, none, .mov (.c (.int .i64 0))⟩,
  ⟨some 3, none, .mov (.c (.bool false))⟩])
  (c0_bus_Bus_Next)
def f_bus_Bus_Next : F := ⟨c_bus_Bus_Next, [.t 2, .t 3], some []⟩
theorem h_bus_Bus_Next : compF Try.prog (compAny Try.prog) n_bus_Bus_Next = some (f_bus_Bus_Next.body, f_bus_Bus_Next.res) := by kernel_rfl
/- pianola/pianolalaw15.known -/
def c0_pianolalaw15_known : C :=
 .seq (.ops [⟨some 27, none, .mov (.t 2)⟩,
  ⟨some 28, none, .bin .eql (.t 27) (.c (.int .u32 16909060))⟩,
  ⟨some 29, none, .mov (.t 28)⟩,
  ⟨some 30, some (29, true), .mov (.t 3)⟩,
  ⟨some 31, none, .pick (.t 29) (.t 30) (.c (.bool false))⟩,
  ⟨some 32, none, .mov (.t 31)⟩,
  ⟨some 33, some (32, true), .mov (.t 4)⟩,
  ⟨some 34, some (32, true), .bin .eql (.t 33) (.c (.int .u32 0))⟩,
  ⟨some 35, none, .pick (.t 32) (.t 34) (.c (.bool false))⟩,
  ⟨some 36, none, .mov (.t 35)⟩,
  ⟨some 37, some (36, true), .mov (.t 5)⟩,
  ⟨some 38, none, .pick (.t 36) (.t 37) (.c (.bool false))⟩,
  ⟨some 39, none, .mov (.t 38)⟩,
  ⟨some 40, some (39, true), .mov (.t 7)⟩,
  ⟨some 41, some (39, true), .un .not (.t 40)⟩,
  ⟨some 42, none, .pick (.t 39) (.t 41) (.c (.bool false))⟩,
  ⟨some 43, none, .mov (.t 42)⟩,
  ⟨some 44, some (43, true), .mov (.t 1)⟩,
  ⟨some 45, some (43, true), .call n_bus_Bus_Store [(.t 44), (.c (.int .u32 4294967292)), (.c (.int .i64 4)), (.c (.int .u32 1)), (.c (.int .i64 0))]⟩,
  ⟨some 46, some (43, true), .un .not (.t 45)⟩,
  ⟨some 47, none, .pick (.t 43) (.t 46) (.c (.bool false))⟩,
  ⟨some 48, none, .mov (.t 47)⟩,
  ⟨some 49, some (48, true), .mov (.t 1)⟩,
  ⟨some 50, some (48, true), .call n_bus_Bus_Ram [(.t 49)]⟩,
  ⟨some 51, some (48, true), .eqn 0 true (.t 50)⟩,
  ⟨some 52, none, .pick (.t 48) (.t 51) (.c (.bool false))⟩,
  ⟨some 53, none, .mov (.t 52)⟩,
  ⟨some 54, some (53, true), .mov (.t 1)⟩,
  ⟨some 55, some (53, true), .call n_bus_Bus_Ram [(.t 54)]⟩,
  ⟨some 56, some (53, true), .call n_ram_Ram_Size [(.t 55)]⟩,
  ⟨some 57, some (53, true), .bin .eql (.t 56) (.c (.int .u32 1024))⟩,
  ⟨some 58, none, .pick (.t 53) (.t 57) (.c (.bool false))⟩,
  ⟨some 0, none, .mov (.t 58)⟩])
  (.ret)
def c1_pianolalaw15_known : C :=
 .seq (.ops [⟨some 23, none, .mov (.t 1)⟩,
  ⟨some 24, none, .call n_bus_Bus_Load [(.t 23), (.c (.int .u32 520093697)), (.c (.int .i64 1)), (.c (.int .i64 0))]⟩,
  ⟨some 22, none, .mov (.t 24)⟩,
  ⟨some 25, none, .ext (.t 22) 0⟩,
  ⟨some 26, none, .ext (.t 22) 1⟩,
  ⟨some 6, none, .mov (.t 25)⟩,
  ⟨some 7, none, .mov (.t 26)⟩])
  (c0_pianolalaw15_known)
def c2_pianolalaw15_known : C :=
 .seq (.ops [⟨some 18, none, .mov (.t 1)⟩,
  ⟨some 19, none, .call n_bus_Bus_Load [(.t 18), (.c (.int .u32 520093696)), (.c (.int .i64 4)), (.c (.int .i64 0))]⟩,
  ⟨some 17, none, .mov (.t 19)⟩,
  ⟨some 20, none, .ext (.t 17) 0⟩,
  ⟨some 21, none, .ext (.t 17) 1⟩,
  ⟨some 4, none, .mov (.t 20)⟩,
  ⟨some 5, none, .mov (.t 21)⟩])
  (c1_pianolalaw15_known)
def c3_pianolalaw15_known : C :=
 .seq (.ops [⟨some 13, none, .mov (.t 1)⟩,
  ⟨some 14, none, .call n_bus_Bus_Load [(.t 13), (.c (.int .u32 0)), (.c (.int .i64 4)), (.c (.int .i64 0))]⟩,
  ⟨some 12, none, .mov (.t 14)⟩,
  ⟨some 15, none, .ext (.t 12) 0⟩,
  ⟨some 16, none, .ext (.t 12) 1⟩,
  ⟨some 2, none, .mov (.t 15)⟩,
  ⟨some 3, none, .mov (.t 16)⟩])
  (c2_pianolalaw15_known)
def c4_pianolalaw15_known : C :=
 .seq (.ops [⟨some 8, none, .bsl 4 [(.int .u8 0), (.int .u8 0), (.int .u8 0), (.int .u8 0)] [(0, 1, (.c (.int .u8 1))), (1, 1, (.c (.int .u8 2))), (2, 1, (.c (.int .u8 3))), (3, 1, (.c (.int .u8 4)))]⟩,
  ⟨some 9, none, .call n_bus_New [(.c (.int .i64 1)), (.t 8), (.c (.slice none 0 0))]⟩,
  ⟨some 1, none, .mov (.t 9)⟩])
  (.seq (.seq (.ops [⟨some 10, none, .mov (.t 1)⟩,
  ⟨some 11, none, .eqn 0 false (.t 10)⟩])
  (.cond (.t 11)
  (.seq (.ops [⟨some 0, none, .mov (.c (.bool false))⟩])
  (.ret))
  (.skip)))
  (c3_pianolalaw15_known))
def c_pianolalaw15_known : C :=
 .seq (.ops [⟨some 0, none, .mov (.c (.bool false))⟩])
  (c4_pianolalaw15_known)
def f_pianolalaw15_known : F := ⟨c_pianolalaw15_known, [.t 0], some []⟩
theorem h_pianolalaw15_known : compF Try.prog (compAny Try.prog) n_pianolalaw15_known = some (f_pianolalaw15_known.body, f_pianolalaw15_known.res) := by kernel_rfl
/- (*pianola/uart.Uart).arm -/
def c_uart_Uart_arm : C :=
 .any 0 [.op 0 ⟨some 4, none, .mov (.t 0)⟩,
  .op 1 ⟨some 5, none, .nilc (.t 4)⟩,
  .op 2 ⟨some 6, none, .fa 1 (.t 5)⟩,
  .op 3 ⟨some 7, none, .ld (.t 6)⟩,
  .op 4 ⟨some 8, none, .mov (.t 0)⟩,
  .op 5 ⟨some 9, none, .nilc (.t 8)⟩,
  .op 6 ⟨some 10, none, .fa 0 (.t 9)⟩,
  .op 7 ⟨some 11, none, .ld (.t 10)⟩,
  .op 8 ⟨some 12, none, .mov (.t 1)⟩,
  .op 9 ⟨some 13, none, .bin .add (.t 12) (.c (.int .i64 8))⟩,
  .op 10 ⟨some 14, none, .call n_wheel_Wheel_Arm [(.t 7), (.t 11), (.t 13)]⟩]
def f_uart_Uart_arm : F := ⟨c_uart_Uart_arm, [], some []⟩
theorem h_uart_Uart_arm : compF Try.prog (compAny Try.prog) n_uart_Uart_arm = some (f_uart_Uart_arm.body, f_uart_Uart_arm.res) := by kernel_rfl
/- (*pianola/wheel.Wheel).Next -/
def c0_wheel_Wheel_Next : C :=
 .seq (.ops [⟨some 10, none, .mov (.t 0)⟩,
  ⟨some 11, none, .nilc (.t 10)⟩,
  ⟨some 12, none, .fa 0 (.t 11)⟩,
  ⟨some 13, none, .ld (.t 12)⟩,
  ⟨some 14, none, .ia 3 (.t 13) (.c (.int .i64 0))⟩,
  ⟨some 15, none, .fa 0 (.t 14)⟩,
  ⟨some 16, none, .ld (.t 15)⟩,
  ⟨some 2, none, .mov (.t 16)⟩,
  ⟨some 3, none, .mov (.c (.bool true))⟩])
  (.ret)
def c1_wheel_Wheel_Next : C :=
 .seq (.seq (.ops [⟨some 4, none, .mov (.t 0)⟩,
  ⟨some 5, none, .nilc (.t 4)⟩,
  ⟨some 6, none, .fa 0 (.t 5)⟩,
  ⟨some 7, none, .ld (.t 6)⟩,
  ⟨some 8, none, .len 1 (.t 7)⟩,
  ⟨some 9, none, .bin .eql (.t 8) (.c (.int .i64 0))⟩])
  (.cond (.t 9)
  (.seq (.ops [⟨some 2, none, .mov (.c (.int .i64 0))⟩,
  ⟨some 3, none, .mov (.c (.bool false))⟩])
  (.ret))
  (.skip)))
  (c0_wheel_Wheel_Next)
def c_wheel_Wheel_Next : C :=
 .seq (.ops [⟨some 2, none, .mov (.c (.int .i64 0))⟩,
  ⟨some 3, none, .mov (.c (.bool false))⟩])
  (c1_wheel_Wheel_Next)
def f_wheel_Wheel_Next : F := ⟨c_wheel_Wheel_Next, [.t 2, .t 3], some []⟩
theorem h_wheel_Wheel_Next : compF Try.prog (compAny Try.prog) n_wheel_Wheel_Next = some (f_wheel_Wheel_Next.body, f_wheel_Wheel_Next.res) := by kernel_rfl
end Go.Proofs.Ytpdfdemoflofhaa.Cd

/- The code of the functions that are reached, as the interpreter reads it. -/
set_option maxRecDepth 100000
set_option linter.defProp false
namespace Go.Proofs.Ytpdfdemoflofhaa.Cd
open Go Go.Dx
/- slices.Delete[[]pianola/api.Event,pianola/api.Event] -/
def c0_slices_Delete_api_Event_api_Event : C :=
 .seq (.ops [⟨some 27, none, .mov (.t 0)⟩,
  ⟨some 28, none, .mov (.t 0)⟩,
  ⟨some 29, none, .len 1 (.t 28)⟩,
  ⟨some 30, none, .mov (.t 7)⟩,
  ⟨some 31, none, .sl 3 (.t 27) (some (.t 29)) (some (.t 30)) none⟩,
  ⟨none, none, .clr [(.int .i64 0), (.int .i64 0), (.int .i64 0)] (.t 31)⟩])
  (.seq (.ops [⟨some 32, none, .mov (.t 0)⟩,
  ⟨some 6, none, .mov (.t 32)⟩])
  (.ret))
def c1_slices_Delete_api_Event_api_Event : C :=
 .seq (.any 0 [.op 0 ⟨some 20, none, .mov (.t 0)⟩,
  .op 1 ⟨some 21, none, .mov (.t 1)⟩,
  .op 2 ⟨some 22, none, .sl 3 (.t 20) none (some (.t 21)) none⟩,
  .op 3 ⟨some 23, none, .mov (.t 0)⟩,
  .op 4 ⟨some 24, none, .mov (.t 2)⟩,
  .op 5 ⟨some 25, none, .sl 3 (.t 23) (some (.t 24)) none none⟩,
  .op 6 ⟨some 26, none, .app 3 24 (.t 22) (.t 25)⟩,
  .op 7 ⟨some 0, none, .mov (.t 26)⟩])
  (c0_slices_Delete_api_Event_api_Event)
def c2_slices_Delete_api_Event_api_Event : C :=
 .seq (.seq (.ops [⟨some 14, none, .mov (.t 1)⟩,
  ⟨some 15, none, .mov (.t 2)⟩,
  ⟨some 16, none, .bin .eql (.t 14) (.t 15)⟩])
  (.cond (.t 16)
  (.seq (.ops [⟨some 17, none, .mov (.t 0)⟩,
  ⟨some 6, none, .mov (.t 17)⟩])
  (.ret))
  (.skip)))
  (.seq (.ops [⟨some 18, none, .mov (.t 0)⟩,
  ⟨some 19, none, .len 1 (.t 18)⟩,
  ⟨some 7, none, .mov (.t 19)⟩])
  (c1_slices_Delete_api_Event_api_Event))
def c_slices_Delete_api_Event_api_Event : C :=
 .seq (.ops [⟨some 6, none, .mov (.c (.slice none 0 0))⟩])
  (.seq (.ops [⟨some 8, none, .mov (.t 0)⟩,
  ⟨some 9, none, .mov (.t 1)⟩,
  ⟨some 10, none, .mov (.t 2)⟩,
  ⟨some 11, none, .mov (.t 0)⟩,
  ⟨some 12, none, .len 1 (.t 11)⟩,
  ⟨some 13, none, .sl 3 (.t 8) (some (.t 9)) (some (.t 10)) (some (.t 12))⟩])
  (c2_slices_Delete_api_Event_api_Event))
def f_slices_Delete_api_Event_api_Event : F := ⟨c_slices_Delete_api_Event_api_Event, [.t 6], some []⟩
theorem h_slices_Delete_api_Event_api_Event : compF Try.prog (compAny Try.prog) n_slices_Delete_api_Event_api_Event = some (f_slices_Delete_api_Event_api_Event.body, f_slices_Delete_api_Event_api_Event.res) := by kernel_rfl
/- slices.Clone[[]byte,byte] -/
def c0_slices_Clone_byte_byte : C :=
 .seq (.seq (.ops [⟨some 3, none, .mov (.t 0)⟩,
  ⟨some 4, none, .eqn 1 false (.t 3)⟩])
  (.cond (.t 4)
  (.seq (.ops [⟨some 2, none, .mov (.c (.slice none 0 0))⟩])
  (.ret))
  (.skip)))
  (.seq (.ops [⟨some 5, none, .bsl 0 [] []⟩,
  ⟨some 6, none, .mov (.t 0)⟩,
  ⟨some 7, none, .app 1 1 (.t 5) (.t 6)⟩,
  ⟨some 2, none, .mov (.t 7)⟩])
  (.ret))
def c_slices_Clone_byte_byte : C :=
 .seq (.ops [⟨some 2, none, .mov (.c (.slice none 0 0))⟩])
  (c0_slices_Clone_byte_byte)
def f_slices_Clone_byte_byte : F := ⟨c_slices_Clone_byte_byte, [.t 2], some []⟩
theorem h_slices_Clone_byte_byte : compF Try.prog (compAny Try.prog) n_slices_Clone_byte_byte = some (f_slices_Clone_byte_byte.body, f_slices_Clone_byte_byte.res) := by kernel_rfl
/- pianola/uart.bit -/
def c_uart_bit : C :=
 .seq (.ops [⟨some 4, none, .mov (.c (.int .u32 0))⟩])
  (.seq (.seq (.ops [⟨some 5, none, .mov (.t 0)⟩])
  (.cond (.t 5)
  (.seq (.ops [⟨some 6, none, .mov (.t 1)⟩,
  ⟨some 4, none, .mov (.t 6)⟩])
  (.ret))
  (.skip)))
  (.seq (.ops [⟨some 4, none, .mov (.c (.int .u32 0))⟩])
  (.ret)))
def f_uart_bit : F := ⟨c_uart_bit, [.t 4], some []⟩
theorem h_uart_bit : compF Try.prog (compAny Try.prog) n_uart_bit = some (f_uart_bit.body, f_uart_bit.res) := by kernel_rfl
/- pianola/pianolaref15.New -/
def c0_pianolaref15_New : C :=
 .seq (.ops [⟨some 35, none, .mov (.t 7)⟩,
  ⟨some 36, none, .nilc (.t 35)⟩,
  ⟨some 37, none, .fa 18 (.t 36)⟩,
  ⟨some 38, none, .fa 4 (.t 37)⟩,
  ⟨some 39, none, .ld (.t 38)⟩,
  ⟨some 40, none, .mov (.t 2)⟩,
  ⟨some 41, none, .cpy 1 (.t 39) (.t 40)⟩])
  (.seq (.ops [⟨some 42, none, .mov (.t 7)⟩,
  ⟨some 6, none, .mov (.t 42)⟩])
  (.ret))
def c1_pianolaref15_New : C :=
 .seq (.ops [⟨some 28, none, .mov (.t 7)⟩,
  ⟨some 29, none, .mov (.t 8)⟩,
  ⟨some 30, none, .bin .mul (.t 29) (.c (.int .i64 64))⟩,
  ⟨some 31, none, .mks [(.int .u8 0)] 1 (.t 30) (.t 30)⟩,
  ⟨some 32, none, .nilc (.t 28)⟩,
  ⟨some 33, none, .fa 18 (.t 32)⟩,
  ⟨some 34, none, .fa 4 (.t 33)⟩,
  ⟨none, none, .st (.t 34) (.t 31)⟩])
  (c0_pianolaref15_New)
def c2_pianolaref15_New : C :=
 .seq (.ops [⟨some 22, none, .mov (.t 2)⟩,
  ⟨some 23, none, .len 1 (.t 22)⟩,
  ⟨some 24, none, .bin .add (.t 23) (.c (.int .i64 64))⟩,
  ⟨some 25, none, .bin .sub (.t 24) (.c (.int .i64 1))⟩,
  ⟨some 26, none, .bin .quo (.t 25) (.c (.int .i64 64))⟩,
  ⟨some 27, none, .mn (.t 26) (.c (.int .i64 64))⟩,
  ⟨some 8, none, .mov (.t 27)⟩])
  (c1_pianolaref15_New)
def c3_pianolaref15_New : C :=
 .seq (.ops [⟨some 13, none, .mov (.t 7)⟩,
  ⟨some 14, none, .nilc (.t 13)⟩,
  ⟨some 15, none, .fa 0 (.t 14)⟩,
  ⟨some 16, none, .ld (.t 15)⟩,
  ⟨some 17, none, .nilc (.t 16)⟩,
  ⟨some 18, none, .fa 0 (.t 17)⟩,
  ⟨some 19, none, .ld (.t 18)⟩,
  ⟨some 20, none, .mov (.t 1)⟩,
  ⟨some 21, none, .cpy 1 (.t 19) (.t 20)⟩])
  (c2_pianolaref15_New)
def c4_pianolaref15_New : C :=
 .seq (.ops [⟨some 9, none, .mov (.t 0)⟩,
  ⟨some 10, none, .call n_pianolaref2_New [(.t 9)]⟩,
  ⟨some 11, none, .build [(.pointer none), (.slice none 0 0), (.int .i64 0), (.int .u32 0), (.int .u32 0), (.int .u32 0), (.int .u32 0), (.int .u32 0), (.int .u32 0), (.slice none 0 0), (.slice none 0 0), (.bool false), (.int .u32 0), (.slice none 0 0), (.int .u32 0), (.int .u32 0), (.int .u32 0), (.int .u32 0), (.int .u32 0), (.int .u32 0), (.int .u32 0), (.int .u32 0), (.slice none 0 0), (.int .u32 0), (.int .u32 0)] [(0, 1, (.t 10))]⟩,
  ⟨some 12, none, .box (.t 11)⟩,
  ⟨some 7, none, .mov (.t 12)⟩])
  (c3_pianolaref15_New)
def c_pianolaref15_New : C :=
 .seq (.ops [⟨some 6, none, .mov (.c (.pointer none))⟩])
  (c4_pianolaref15_New)
def f_pianolaref15_New : F := ⟨c_pianolaref15_New, [.t 6], some []⟩
theorem h_pianolaref15_New : compF Try.prog (compAny Try.prog) n_pianolaref15_New = some (f_pianolaref15_New.body, f_pianolaref15_New.res) := by kernel_rfl
/- (*pianola/disk.Disk).Read -/
def c0_disk_Disk_Read : C :=
 .seq (.ops [⟨some 26, none, .bin .eql (.t 6) (.c (.int .u32 12))⟩,
  ⟨some 25, none, .mov (.t 26)⟩])
  (.cond (.t 25)
  (.seq (.ops [⟨some 27, none, .mov (.t 0)⟩,
  ⟨some 28, none, .nilc (.t 27)⟩,
  ⟨some 29, none, .fa 7 (.t 28)⟩,
  ⟨some 30, none, .ld (.t 29)⟩,
  ⟨some 4, none, .mov (.t 30)⟩,
  ⟨some 5, none, .mov (.c (.bool true))⟩])
  (.ret))
  (.skip))
def c1_disk_Disk_Read : C :=
 .seq (.ops [⟨some 20, none, .bin .eql (.t 6) (.c (.int .u32 8))⟩,
  ⟨some 19, none, .mov (.t 20)⟩])
  (.cond (.t 19)
  (.seq (.ops [⟨some 21, none, .mov (.t 0)⟩,
  ⟨some 22, none, .nilc (.t 21)⟩,
  ⟨some 23, none, .fa 6 (.t 22)⟩,
  ⟨some 24, none, .ld (.t 23)⟩,
  ⟨some 4, none, .mov (.t 24)⟩,
  ⟨some 5, none, .mov (.c (.bool true))⟩])
  (.ret))
  (c0_disk_Disk_Read))
def c2_disk_Disk_Read : C :=
 .seq (.ops [⟨some 14, none, .bin .eql (.t 6) (.c (.int .u32 4))⟩,
  ⟨some 13, none, .mov (.t 14)⟩])
  (.cond (.t 13)
  (.seq (.ops [⟨some 15, none, .mov (.t 0)⟩,
  ⟨some 16, none, .nilc (.t 15)⟩,
  ⟨some 17, none, .fa 5 (.t 16)⟩,
  ⟨some 18, none, .ld (.t 17)⟩,
  ⟨some 4, none, .mov (.t 18)⟩,
  ⟨some 5, none, .mov (.c (.bool true))⟩])
  (.ret))
  (c1_disk_Disk_Read))
def c3_disk_Disk_Read : C :=
 .block 0
  (.seq (.ops [⟨some 8, none, .bin .eql (.t 6) (.c (.int .u32 0))⟩,
  ⟨some 7, none, .mov (.t 8)⟩])
  (.cond (.t 7)
  (.seq (.ops [⟨some 9, none, .mov (.t 0)⟩,
  ⟨some 10, none, .nilc (.t 9)⟩,
  ⟨some 11, none, .fa 4 (.t 10)⟩,
  ⟨some 12, none, .ld (.t 11)⟩,
  ⟨some 4, none, .mov (.t 12)⟩,
  ⟨some 5, none, .mov (.c (.bool true))⟩])
  (.ret))
  (c2_disk_Disk_Read)))
def c_disk_Disk_Read : C :=
 .seq (.ops [⟨some 4, none, .mov (.c (.int .u32 0))⟩,
  ⟨some 5, none, .mov (.c (.bool false))⟩])
  (.seq (.seq (.ops [⟨some 6, none, .mov (.t 1)⟩])
  (c3_disk_Disk_Read))
  (.seq (.ops [⟨some 4, none, .mov (.c (.int .u32 0))⟩,
  ⟨some 5, none, .mov (.c (.bool false))⟩])
  (.ret)))
def f_disk_Disk_Read : F := ⟨c_disk_Disk_Read, [.t 4, .t 5], some []⟩
theorem h_disk_Disk_Read : compF Try.prog (compAny Try.prog) n_disk_Disk_Read = some (f_disk_Disk_Read.body, f_disk_Disk_Read.res) := by kernel_rfl
/- (*pianola/pianolaref15.Bus).Word -/
def c0_pianolaref15_Bus_Word : C :=
 .any 1 [.op 0 ⟨some 17, none, .mov (.t 0)⟩,
  .op 1 ⟨some 18, none, .nilc (.t 17)⟩,
  .op 2 ⟨some 19, none, .fa 23 (.t 18)⟩,
  .op 3 ⟨some 20, none, .ld (.t 19)⟩,
  .op 4 ⟨some 21, none, .mov (.t 0)⟩,
  .op 5 ⟨some 22, none, .nilc (.t 21)⟩,
  .op 6 ⟨some 23, none, .fa 24 (.t 22)⟩,
  .op 7 ⟨some 24, none, .ld (.t 23)⟩,
  .op 8 ⟨some 25, none, .mov (.t 3)⟩,
  .op 9 ⟨some 26, none, .conv .u64 (.t 25)⟩,
  .op 10 ⟨some 27, none, .conv .u32 (.t 26)⟩,
  .op 11 ⟨some 28, none, .mov (.t 3)⟩,
  .op 12 ⟨some 29, none, .conv .u64 (.t 28)⟩,
  .op 13 ⟨some 30, none, .bin .shr (.t 29) (.c (.int .u64 32))⟩,
  .op 14 ⟨some 31, none, .conv .u32 (.t 30)⟩,
  .al 15 0 ⟨some 32, none, .bsl 4 [(.int .u32 0), (.int .u32 0), (.int .u32 0), (.int .u32 0)] [(0, 1, (.t 20)), (1, 1, (.t 24)), (2, 1, (.t 27)), (3, 1, (.t 31))]⟩,
  .op 16 ⟨some 10, none, .mov (.t 32)⟩]
def c1_pianolaref15_Bus_Word : C :=
 .ops [⟨some 43, none, .fa 0 (.t 11)⟩,
  ⟨some 44, none, .ld (.t 43)⟩,
  ⟨some 45, none, .fa 1 (.t 11)⟩,
  ⟨some 46, none, .ld (.t 45)⟩,
  ⟨some 47, none, .fa 2 (.t 11)⟩,
  ⟨some 48, none, .ld (.t 47)⟩,
  ⟨some 49, none, .bsl 3 [(.int .u32 0), (.int .u32 0), (.int .u32 0)] [(0, 1, (.t 44)), (1, 1, (.t 46)), (2, 1, (.t 48))]⟩,
  ⟨some 10, none, .mov (.t 49)⟩]
def c2_pianolaref15_Bus_Word : C :=
 .seq (.ops [⟨some 36, none, .mov (.t 0)⟩,
  ⟨some 37, none, .mov (.t 1)⟩,
  ⟨some 38, none, .bin .sub (.t 37) (.c (.int .i64 1))⟩,
  ⟨some 39, none, .nilc (.t 36)⟩,
  ⟨some 40, none, .fa 3 (.t 39)⟩,
  ⟨some 41, none, .iaa 2 3 (.t 40) (.t 38)⟩,
  ⟨some 42, none, .ldn 3 (.t 41)⟩,
  ⟨some 11, none, .new [(.int .u32 0), (.int .u32 0), (.int .u32 0)]⟩,
  ⟨none, none, .stn 3 (.t 11) (.t 42)⟩])
  (c1_pianolaref15_Bus_Word)
def c3_pianolaref15_Bus_Word : C :=
 .ops [⟨some 59, none, .mov (.t 0)⟩,
  ⟨some 60, none, .nilc (.t 59)⟩,
  ⟨some 61, none, .fa 9 (.t 60)⟩,
  ⟨some 62, none, .fa 0 (.t 61)⟩,
  ⟨some 63, none, .ld (.t 62)⟩,
  ⟨some 64, none, .ia 1 (.t 63) (.c (.int .i64 0))⟩,
  ⟨some 65, none, .ld (.t 64)⟩,
  ⟨some 66, none, .conv .u32 (.t 65)⟩,
  ⟨some 12, none, .mov (.t 66)⟩]
def c4_pianolaref15_Bus_Word : C :=
 .any 1 [.op 1 ⟨some 68, none, .mov (.t 0)⟩,
  .op 2 ⟨some 69, none, .nilc (.t 68)⟩,
  .op 3 ⟨some 70, none, .fa 9 (.t 69)⟩,
  .op 4 ⟨some 71, none, .fa 0 (.t 70)⟩,
  .op 5 ⟨some 72, none, .ld (.t 71)⟩,
  .op 6 ⟨some 73, none, .len 1 (.t 72)⟩,
  .op 9 ⟨some 76, none, .mov (.t 0)⟩,
  .op 10 ⟨some 77, none, .nilc (.t 76)⟩,
  .op 11 ⟨some 78, none, .fa 9 (.t 77)⟩,
  .op 12 ⟨some 79, none, .fa 1 (.t 78)⟩,
  .op 13 ⟨some 80, none, .ld (.t 79)⟩,
  .op 14 ⟨some 81, none, .len 1 (.t 80)⟩,
  .op 18 ⟨some 85, none, .mov (.t 0)⟩,
  .op 19 ⟨some 86, none, .nilc (.t 85)⟩,
  .op 20 ⟨some 87, none, .fa 9 (.t 86)⟩,
  .op 21 ⟨some 88, none, .fa 2 (.t 87)⟩,
  .op 22 ⟨some 89, none, .ld (.t 88)⟩,
  .op 25 ⟨some 92, none, .mov (.t 0)⟩,
  .op 26 ⟨some 93, none, .nilc (.t 92)⟩,
  .op 27 ⟨some 94, none, .fa 9 (.t 93)⟩,
  .op 28 ⟨some 95, none, .fa 1 (.t 94)⟩,
  .op 29 ⟨some 96, none, .ld (.t 95)⟩,
  .op 30 ⟨some 97, none, .len 1 (.t 96)⟩,
  .op 34 ⟨some 101, none, .mov (.t 0)⟩,
  .op 35 ⟨some 102, none, .nilc (.t 101)⟩,
  .op 36 ⟨some 103, none, .fa 9 (.t 102)⟩,
  .op 37 ⟨some 104, none, .fa 3 (.t 103)⟩,
  .op 38 ⟨some 105, none, .ld (.t 104)⟩,
  .op 7 ⟨some 74, none, .bin .gtr (.t 73) (.c (.int .i64 0))⟩,
  .op 8 ⟨some 75, none, .call n_pianolaref15_bit [(.t 74), (.c (.int .u64 0))]⟩,
  .re 13 ⟨some 80, none, .ld (.t 79)⟩,
  .re 14 ⟨some 81, none, .len 1 (.t 80)⟩,
  .re 22 ⟨some 89, none, .ld (.t 88)⟩,
  .re 29 ⟨some 96, none, .ld (.t 95)⟩,
  .re 30 ⟨some 97, none, .len 1 (.t 96)⟩,
  .re 38 ⟨some 105, none, .ld (.t 104)⟩,
  .op 15 ⟨some 82, none, .bin .geq (.t 81) (.c (.int .i64 16))⟩,
  .op 16 ⟨some 83, none, .call n_pianolaref15_bit [(.t 82), (.c (.int .u64 1))]⟩,
  .re 22 ⟨some 89, none, .ld (.t 88)⟩,
  .re 29 ⟨some 96, none, .ld (.t 95)⟩,
  .re 30 ⟨some 97, none, .len 1 (.t 96)⟩,
  .re 38 ⟨some 105, none, .ld (.t 104)⟩,
  .op 23 ⟨some 90, none, .call n_pianolaref15_bit [(.t 89), (.c (.int .u64 2))]⟩,
  .re 29 ⟨some 96, none, .ld (.t 95)⟩,
  .re 30 ⟨some 97, none, .len 1 (.t 96)⟩,
  .re 38 ⟨some 105, none, .ld (.t 104)⟩,
  .op 31 ⟨some 98, none, .bin .eql (.t 97) (.c (.int .i64 0))⟩,
  .op 32 ⟨some 99, none, .call n_pianolaref15_bit [(.t 98), (.c (.int .u64 3))]⟩,
  .re 38 ⟨some 105, none, .ld (.t 104)⟩,
  .op 0 ⟨some 67, none, .mov (.t 12)⟩,
  .op 17 ⟨some 84, none, .bin .or (.t 75) (.t 83)⟩,
  .op 24 ⟨some 91, none, .bin .or (.t 84) (.t 90)⟩,
  .op 33 ⟨some 100, none, .bin .or (.t 91) (.t 99)⟩,
  .al 39 0 ⟨some 106, none, .bsl 3 [(.int .u32 0), (.int .u32 0), (.int .u32 0)] [(0, 1, (.t 67)), (1, 1, (.t 100)), (2, 1, (.t 105))]⟩,
  .op 40 ⟨some 10, none, .mov (.t 106)⟩]
def c5_pianolaref15_Bus_Word : C :=
 .seq (.seq (.ops [⟨some 52, none, .mov (.t 0)⟩,
  ⟨some 53, none, .nilc (.t 52)⟩,
  ⟨some 54, none, .fa 9 (.t 53)⟩,
  ⟨some 55, none, .fa 0 (.t 54)⟩,
  ⟨some 56, none, .ld (.t 55)⟩,
  ⟨some 57, none, .len 1 (.t 56)⟩,
  ⟨some 58, none, .bin .gtr (.t 57) (.c (.int .i64 0))⟩])
  (.cond (.t 58)
  (c3_pianolaref15_Bus_Word)
  (.skip)))
  (c4_pianolaref15_Bus_Word)
def c6_pianolaref15_Bus_Word : C :=
 .any 1 [.op 0 ⟨some 109, none, .mov (.t 0)⟩,
  .op 1 ⟨some 110, none, .nilc (.t 109)⟩,
  .op 2 ⟨some 111, none, .fa 14 (.t 110)⟩,
  .op 3 ⟨some 112, none, .fa 0 (.t 111)⟩,
  .op 4 ⟨some 113, none, .ld (.t 112)⟩,
  .op 5 ⟨some 114, none, .mov (.t 0)⟩,
  .op 6 ⟨some 115, none, .nilc (.t 114)⟩,
  .op 7 ⟨some 116, none, .fa 14 (.t 115)⟩,
  .op 8 ⟨some 117, none, .fa 1 (.t 116)⟩,
  .op 9 ⟨some 118, none, .ld (.t 117)⟩,
  .op 10 ⟨some 119, none, .mov (.t 0)⟩,
  .op 11 ⟨some 120, none, .nilc (.t 119)⟩,
  .op 12 ⟨some 121, none, .fa 14 (.t 120)⟩,
  .op 13 ⟨some 122, none, .fa 2 (.t 121)⟩,
  .op 14 ⟨some 123, none, .ld (.t 122)⟩,
  .op 15 ⟨some 124, none, .mov (.t 0)⟩,
  .op 16 ⟨some 125, none, .nilc (.t 124)⟩,
  .op 17 ⟨some 126, none, .fa 14 (.t 125)⟩,
  .op 18 ⟨some 127, none, .fa 3 (.t 126)⟩,
  .op 19 ⟨some 128, none, .ld (.t 127)⟩,
  .al 20 0 ⟨some 129, none, .bsl 5 [(.int .u32 0), (.int .u32 0), (.int .u32 0), (.int .u32 0), (.int .u32 0)] [(0, 1, (.t 113)), (1, 1, (.t 118)), (2, 1, (.t 123)), (3, 1, (.c (.int .u32 0))), (4, 1, (.t 128))]⟩,
  .op 21 ⟨some 10, none, .mov (.t 129)⟩]
def c7_pianolaref15_Bus_Word : C :=
 .any 1 [.op 0 ⟨some 132, none, .mov (.t 0)⟩,
  .op 1 ⟨some 133, none, .nilc (.t 132)⟩,
  .op 2 ⟨some 134, none, .fa 18 (.t 133)⟩,
  .op 3 ⟨some 135, none, .fa 0 (.t 134)⟩,
  .op 4 ⟨some 136, none, .ld (.t 135)⟩,
  .op 5 ⟨some 137, none, .mov (.t 0)⟩,
  .op 6 ⟨some 138, none, .nilc (.t 137)⟩,
  .op 7 ⟨some 139, none, .fa 18 (.t 138)⟩,
  .op 8 ⟨some 140, none, .fa 1 (.t 139)⟩,
  .op 9 ⟨some 141, none, .ld (.t 140)⟩,
  .op 10 ⟨some 142, none, .mov (.t 0)⟩,
  .op 11 ⟨some 143, none, .nilc (.t 142)⟩,
  .op 12 ⟨some 144, none, .fa 18 (.t 143)⟩,
  .op 13 ⟨some 145, none, .fa 2 (.t 144)⟩,
  .op 14 ⟨some 146, none, .ld (.t 145)⟩,
  .op 15 ⟨some 147, none, .mov (.t 0)⟩,
  .op 16 ⟨some 148, none, .nilc (.t 147)⟩,
  .op 17 ⟨some 149, none, .fa 18 (.t 148)⟩,
  .op 18 ⟨some 150, none, .fa 3 (.t 149)⟩,
  .op 19 ⟨some 151, none, .ld (.t 150)⟩,
  .al 20 0 ⟨some 152, none, .bsl 4 [(.int .u32 0), (.int .u32 0), (.int .u32 0), (.int .u32 0)] [(0, 1, (.t 136)), (1, 1, (.t 141)), (2, 1, (.t 146)), (3, 1, (.t 151))]⟩,
  .op 21 ⟨some 10, none, .mov (.t 152)⟩]
def c8_pianolaref15_Bus_Word : C :=
 .cond (.t 50)
  (.seq (.ops [⟨some 12, none, .mov (.c (.int .u32 256))⟩])
  (c5_pianolaref15_Bus_Word))
  (.seq (.ops [⟨some 108, none, .bin .eql (.t 14) (.c (.int .i64 4))⟩,
  ⟨some 107, none, .mov (.t 108)⟩])
  (.cond (.t 107)
  (c6_pianolaref15_Bus_Word)
  (.seq (.ops [⟨some 131, none, .bin .eql (.t 14) (.c (.int .i64 5))⟩,
  ⟨some 130, none, .mov (.t 131)⟩])
  (.cond (.t 130)
  (c7_pianolaref15_Bus_Word)
  (.skip)))))
def c9_pianolaref15_Bus_Word : C :=
 .seq (.seq (.ops [⟨some 34, none, .bin .eql (.t 14) (.c (.int .i64 1))⟩,
  ⟨some 33, none, .mov (.t 34)⟩])
  (.cond (.t 33)
  (.skip)
  (.ops [⟨some 35, none, .bin .eql (.t 14) (.c (.int .i64 2))⟩,
  ⟨some 33, none, .mov (.t 35)⟩])))
  (.cond (.t 33)
  (c2_pianolaref15_Bus_Word)
  (.seq (.ops [⟨some 51, none, .bin .eql (.t 14) (.c (.int .i64 3))⟩,
  ⟨some 50, none, .mov (.t 51)⟩])
  (c8_pianolaref15_Bus_Word)))
def c10_pianolaref15_Bus_Word : C :=
 .ops [⟨some 179, none, .mov (.t 0)⟩,
  ⟨some 180, none, .bsl 0 [] []⟩,
  ⟨some 181, none, .mov (.t 0)⟩,
  ⟨some 182, none, .nilc (.t 181)⟩,
  ⟨some 183, none, .fa 9 (.t 182)⟩,
  ⟨some 184, none, .fa 0 (.t 183)⟩,
  ⟨some 185, none, .ld (.t 184)⟩,
  ⟨some 186, none, .sl 1 (.t 185) (some (.c (.int .i64 1))) none none⟩,
  ⟨some 187, none, .app 1 1 (.t 180) (.t 186)⟩,
  ⟨some 188, none, .nilc (.t 179)⟩,
  ⟨some 189, none, .fa 9 (.t 188)⟩,
  ⟨some 190, none, .fa 0 (.t 189)⟩,
  ⟨none, none, .st (.t 190) (.t 187)⟩]
def c11_pianolaref15_Bus_Word : C :=
 .seq (.seq (.ops [⟨some 164, none, .mov (.t 1)⟩,
  ⟨some 165, none, .bin .eql (.t 164) (.c (.int .i64 3))⟩,
  ⟨some 166, none, .mov (.t 165)⟩,
  ⟨some 167, some (166, true), .mov (.t 2)⟩,
  ⟨some 168, some (166, true), .bin .eql (.t 167) (.c (.int .u32 0))⟩,
  ⟨some 169, none, .pick (.t 166) (.t 168) (.c (.bool false))⟩,
  ⟨some 170, none, .mov (.t 169)⟩,
  ⟨some 171, some (170, true), .mov (.t 0)⟩,
  ⟨some 172, some (170, true), .nilc (.t 171)⟩,
  ⟨some 173, some (170, true), .fa 9 (.t 172)⟩,
  ⟨some 174, some (170, true), .fa 0 (.t 173)⟩,
  ⟨some 175, some (170, true), .ld (.t 174)⟩,
  ⟨some 176, some (170, true), .len 1 (.t 175)⟩,
  ⟨some 177, some (170, true), .bin .gtr (.t 176) (.c (.int .i64 0))⟩,
  ⟨some 178, none, .pick (.t 170) (.t 177) (.c (.bool false))⟩])
  (.cond (.t 178)
  (c10_pianolaref15_Bus_Word)
  (.skip)))
  (.seq (.ops [⟨some 191, none, .mov (.t 10)⟩,
  ⟨some 192, none, .mov (.t 2)⟩,
  ⟨some 193, none, .bin .quo (.t 192) (.c (.int .u32 4))⟩,
  ⟨some 194, none, .ia 1 (.t 191) (.t 193)⟩,
  ⟨some 195, none, .ld (.t 194)⟩,
  ⟨some 8, none, .mov (.t 195)⟩,
  ⟨some 9, none, .mov (.c (.bool true))⟩])
  (.ret))
def c12_pianolaref15_Bus_Word : C :=
 .seq (.seq (.ops [⟨some 153, none, .mov (.t 2)⟩,
  ⟨some 154, none, .bin .rem (.t 153) (.c (.int .u32 4))⟩,
  ⟨some 155, none, .bin .neq (.t 154) (.c (.int .u32 0))⟩,
  ⟨some 156, none, .mov (.t 155)⟩,
  ⟨some 157, some (156, false), .mov (.t 2)⟩,
  ⟨some 158, some (156, false), .bin .quo (.t 157) (.c (.int .u32 4))⟩,
  ⟨some 159, some (156, false), .mov (.t 10)⟩,
  ⟨some 160, some (156, false), .len 1 (.t 159)⟩,
  ⟨some 161, some (156, false), .conv .u32 (.t 160)⟩,
  ⟨some 162, some (156, false), .bin .geq (.t 158) (.t 161)⟩,
  ⟨some 163, none, .pick (.t 156) (.c (.bool true)) (.t 162)⟩])
  (.cond (.t 163)
  (.seq (.ops [⟨some 8, none, .mov (.c (.int .u32 0))⟩,
  ⟨some 9, none, .mov (.c (.bool false))⟩])
  (.ret))
  (.skip)))
  (c11_pianolaref15_Bus_Word)
def c_pianolaref15_Bus_Word : C :=
 .seq (.ops [⟨some 8, none, .mov (.c (.int .u32 0))⟩,
  ⟨some 9, none, .mov (.c (.bool false))⟩])
  (.seq (.ops [⟨some 13, none, .bsl 0 [] []⟩,
  ⟨some 10, none, .mov (.t 13)⟩])
  (.seq (.seq (.ops [⟨some 14, none, .mov (.t 1)⟩])
  (.block 0
  (.seq (.ops [⟨some 16, none, .bin .eql (.t 14) (.c (.int .i64 0))⟩,
  ⟨some 15, none, .mov (.t 16)⟩])
  (.cond (.t 15)
  (c0_pianolaref15_Bus_Word)
  (c9_pianolaref15_Bus_Word)))))
  (c12_pianolaref15_Bus_Word)))
def f_pianolaref15_Bus_Word : F := ⟨c_pianolaref15_Bus_Word, [.t 8, .t 9], some []⟩
theorem h_pianolaref15_Bus_Word : compF Try.prog (compAny Try.prog) n_pianolaref15_Bus_Word = some (f_pianolaref15_Bus_Word.body, f_pianolaref15_Bus_Word.res) := by kernel_rfl
/- (*pianola/disk.Disk).Fire -/
def c0_disk_Disk_Fire : C :=
 .cond (.t 15)
  (.ops [⟨some 16, none, .mov (.t 0)⟩,
  ⟨some 17, none, .nilc (.t 16)⟩,
  ⟨some 18, none, .fa 7 (.t 17)⟩,
  ⟨some 19, none, .ld (.t 18)⟩,
  ⟨some 20, none, .bin .or (.t 19) (.c (.int .u32 4))⟩,
  ⟨some 21, none, .nilc (.t 16)⟩,
  ⟨some 22, none, .fa 7 (.t 21)⟩,
  ⟨none, none, .st (.t 22) (.t 20)⟩])
  (.skip)
def c_disk_Disk_Fire : C :=
 .seq (.ops [⟨some 4, none, .mov (.t 0)⟩,
  ⟨some 5, none, .mov (.t 0)⟩,
  ⟨some 6, none, .nilc (.t 5)⟩,
  ⟨some 7, none, .fa 7 (.t 6)⟩,
  ⟨some 8, none, .ld (.t 7)⟩,
  ⟨some 9, none, .bin .andNot (.t 8) (.c (.int .u32 1))⟩,
  ⟨some 10, none, .bin .or (.t 9) (.c (.int .u32 2))⟩,
  ⟨some 11, none, .nilc (.t 4)⟩,
  ⟨some 12, none, .fa 7 (.t 11)⟩,
  ⟨none, none, .st (.t 12) (.t 10)⟩])
  (.seq (.ops [⟨some 13, none, .mov (.t 0)⟩,
  ⟨some 14, none, .call n_disk_Disk_do [(.t 13)]⟩,
  ⟨some 15, none, .un .not (.t 14)⟩])
  (c0_disk_Disk_Fire))
def f_disk_Disk_Fire : F := ⟨c_disk_Disk_Fire, [], some []⟩
theorem h_disk_Disk_Fire : compF Try.prog (compAny Try.prog) n_disk_Disk_Fire = some (f_disk_Disk_Fire.body, f_disk_Disk_Fire.res) := by kernel_rfl
/- (*pianola/pianolaref9.Wheel).Take -/
def c0_pianolaref9_Wheel_Take : C :=
 .seq (.ops [⟨some 31, none, .mov (.t 0)⟩,
  ⟨some 32, none, .bsl 0 [] []⟩,
  ⟨some 33, none, .mov (.t 0)⟩,
  ⟨some 34, none, .nilc (.t 33)⟩,
  ⟨some 35, none, .fa 0 (.t 34)⟩,
  ⟨some 36, none, .ld (.t 35)⟩,
  ⟨some 37, none, .sl 3 (.t 36) (some (.c (.int .i64 1))) none none⟩,
  ⟨some 38, none, .app 3 24 (.t 32) (.t 37)⟩,
  ⟨some 39, none, .nilc (.t 31)⟩,
  ⟨some 40, none, .fa 0 (.t 39)⟩,
  ⟨none, none, .st (.t 40) (.t 38)⟩])
  (.seq (.ops [⟨some 41, none, .ldn 3 (.t 6)⟩,
  ⟨none, none, .stn 3 (.t 4) (.t 41)⟩,
  ⟨some 5, none, .mov (.c (.bool true))⟩])
  (.ret))
def c1_pianolaref9_Wheel_Take : C :=
 .seq (.ops [⟨some 25, none, .mov (.t 0)⟩,
  ⟨some 26, none, .nilc (.t 25)⟩,
  ⟨some 27, none, .fa 0 (.t 26)⟩,
  ⟨some 28, none, .ld (.t 27)⟩,
  ⟨some 29, none, .ia 3 (.t 28) (.c (.int .i64 0))⟩,
  ⟨some 30, none, .ldn 3 (.t 29)⟩,
  ⟨some 6, none, .new [(.int .i64 0), (.int .i64 0), (.int .i64 0)]⟩,
  ⟨none, none, .stn 3 (.t 6) (.t 30)⟩])
  (c0_pianolaref9_Wheel_Take)
def c2_pianolaref9_Wheel_Take : C :=
 .seq (.seq (.ops [⟨some 7, none, .mov (.t 0)⟩,
  ⟨some 8, none, .nilc (.t 7)⟩,
  ⟨some 9, none, .fa 0 (.t 8)⟩,
  ⟨some 10, none, .ld (.t 9)⟩,
  ⟨some 11, none, .len 1 (.t 10)⟩,
  ⟨some 12, none, .bin .eql (.t 11) (.c (.int .i64 0))⟩,
  ⟨some 13, none, .mov (.t 12)⟩,
  ⟨some 14, some (13, false), .mov (.t 0)⟩,
  ⟨some 15, some (13, false), .nilc (.t 14)⟩,
  ⟨some 16, some (13, false), .fa 0 (.t 15)⟩,
  ⟨some 17, some (13, false), .ld (.t 16)⟩,
  ⟨some 18, some (13, false), .ia 3 (.t 17) (.c (.int .i64 0))⟩,
  ⟨some 19, some (13, false), .fa 0 (.t 18)⟩,
  ⟨some 20, some (13, false), .ld (.t 19)⟩,
  ⟨some 21, some (13, false), .mov (.t 1)⟩,
  ⟨some 22, some (13, false), .bin .gtr (.t 20) (.t 21)⟩,
  ⟨some 23, none, .pick (.t 13) (.c (.bool true)) (.t 22)⟩])
  (.cond (.t 23)
  (.seq (.ops [⟨some 24, none, .build [(.int .i64 0), (.int .i64 0), (.int .i64 0)] []⟩,
  ⟨none, none, .stn 3 (.t 4) (.t 24)⟩,
  ⟨some 5, none, .mov (.c (.bool false))⟩])
  (.ret))
  (.skip)))
  (c1_pianolaref9_Wheel_Take)
def c_pianolaref9_Wheel_Take : C :=
 .seq (.ops [⟨some 4, none, .new [(.int .i64 0), (.int .i64 0), (.int .i64 0)]⟩,
  ⟨some 5, none, .mov (.c (.bool false))⟩])
  (c2_pianolaref9_Wheel_Take)
def f_pianolaref9_Wheel_Take : F := ⟨c_pianolaref9_Wheel_Take, [.ldn 3 4, .t 5], some []⟩
theorem h_pianolaref9_Wheel_Take : compF Try.prog (compAny Try.prog) n_pianolaref9_Wheel_Take = some (f_pianolaref9_Wheel_Take.body, f_pianolaref9_Wheel_Take.res) := by kernel_rfl
/- (*pianola/pianolaref15.Bus).B1 -/
def c0_pianolaref15_Bus_B1 : C :=
 .any 0 [.op 3 ⟨some 29, none, .fa 1 (.t 3)⟩,
  .op 4 ⟨some 30, none, .ld (.t 29)⟩,
  .op 5 ⟨some 31, none, .fa 0 (.t 3)⟩,
  .op 6 ⟨some 32, none, .ld (.t 31)⟩,
  .op 7 ⟨some 33, none, .mov (.t 4)⟩,
  .op 8 ⟨some 34, none, .nilc (.t 33)⟩,
  .op 9 ⟨some 35, none, .fa 1 (.t 34)⟩,
  .op 10 ⟨some 36, none, .ld (.t 35)⟩,
  .op 0 ⟨some 26, none, .mov (.t 0)⟩,
  .op 1 ⟨some 27, none, .nilc (.t 26)⟩,
  .op 2 ⟨some 28, none, .fa 1 (.t 27)⟩,
  .op 11 ⟨some 37, none, .conv .i64 (.t 36)⟩,
  .op 12 ⟨some 38, none, .mx (.t 37) (.c (.int .i64 1))⟩,
  .op 13 ⟨some 39, none, .bin .add (.t 32) (.t 38)⟩,
  .op 14 ⟨some 40, none, .call n_pianolaref9_Wheel_Arm [(.t 28), (.t 30), (.t 39)]⟩]
def c1_pianolaref15_Bus_B1 : C :=
 .ops [⟨some 41, none, .mov (.t 4)⟩,
  ⟨some 42, none, .mov (.t 4)⟩,
  ⟨some 43, none, .nilc (.t 42)⟩,
  ⟨some 44, none, .fa 0 (.t 43)⟩,
  ⟨some 45, none, .ld (.t 44)⟩,
  ⟨some 46, none, .bin .andNot (.t 45) (.c (.int .u32 1))⟩,
  ⟨some 47, none, .nilc (.t 41)⟩,
  ⟨some 48, none, .fa 0 (.t 47)⟩,
  ⟨none, none, .st (.t 48) (.t 46)⟩]
def c2_pianolaref15_Bus_B1 : C :=
 .seq (.ops [⟨some 17, none, .mov (.t 4)⟩,
  ⟨some 18, none, .nilc (.t 17)⟩,
  ⟨some 19, none, .fa 2 (.t 18)⟩,
  ⟨none, none, .st (.t 19) (.c (.int .u32 1))⟩])
  (.seq (.ops [⟨some 20, none, .mov (.t 4)⟩,
  ⟨some 21, none, .nilc (.t 20)⟩,
  ⟨some 22, none, .fa 0 (.t 21)⟩,
  ⟨some 23, none, .ld (.t 22)⟩,
  ⟨some 24, none, .bin .and (.t 23) (.c (.int .u32 2))⟩,
  ⟨some 25, none, .bin .neq (.t 24) (.c (.int .u32 0))⟩])
  (.cond (.t 25)
  (c0_pianolaref15_Bus_B1)
  (c1_pianolaref15_Bus_B1)))
def c3_pianolaref15_Bus_B1 : C :=
 .seq (.any 0 [.op 1 ⟨some 11, none, .fa 1 (.t 3)⟩,
  .op 2 ⟨some 12, none, .ld (.t 11)⟩,
  .op 0 ⟨some 10, none, .mov (.t 0)⟩,
  .op 3 ⟨some 13, none, .bin .sub (.t 12) (.c (.int .i64 1))⟩,
  .op 4 ⟨some 14, none, .nilc (.t 10)⟩,
  .op 5 ⟨some 15, none, .fa 3 (.t 14)⟩,
  .op 6 ⟨some 16, none, .iaa 2 3 (.t 15) (.t 13)⟩,
  .op 7 ⟨some 4, none, .mov (.t 16)⟩])
  (c2_pianolaref15_Bus_B1)
def c4_pianolaref15_Bus_B1 : C :=
 .any 1 [.op 1 ⟨some 66, none, .mov (.t 0)⟩,
  .op 2 ⟨some 67, none, .nilc (.t 66)⟩,
  .op 3 ⟨some 68, none, .fa 9 (.t 67)⟩,
  .op 4 ⟨some 69, none, .fa 4 (.t 68)⟩,
  .op 5 ⟨some 70, none, .ld (.t 69)⟩,
  .op 6 ⟨some 71, none, .mov (.t 0)⟩,
  .op 7 ⟨some 72, none, .nilc (.t 71)⟩,
  .op 8 ⟨some 73, none, .fa 9 (.t 72)⟩,
  .op 9 ⟨some 74, none, .fa 1 (.t 73)⟩,
  .op 10 ⟨some 75, none, .ld (.t 74)⟩,
  .op 11 ⟨some 76, none, .ia 1 (.t 75) (.c (.int .i64 0))⟩,
  .op 12 ⟨some 77, none, .ld (.t 76)⟩,
  .al 13 0 ⟨some 78, none, .bsl 1 [(.int .u8 0)] [(0, 1, (.t 77))]⟩,
  .op 14 ⟨some 79, none, .app 1 1 (.t 70) (.t 78)⟩,
  .op 0 ⟨some 65, none, .mov (.t 0)⟩,
  .op 15 ⟨some 80, none, .nilc (.t 65)⟩,
  .op 16 ⟨some 81, none, .fa 9 (.t 80)⟩,
  .op 17 ⟨some 82, none, .fa 4 (.t 81)⟩,
  .op 18 ⟨none, none, .st (.t 82) (.t 79)⟩]
def c5_pianolaref15_Bus_B1 : C :=
 .ops [⟨some 83, none, .mov (.t 0)⟩,
  ⟨some 84, none, .bsl 0 [] []⟩,
  ⟨some 85, none, .mov (.t 0)⟩,
  ⟨some 86, none, .nilc (.t 85)⟩,
  ⟨some 87, none, .fa 9 (.t 86)⟩,
  ⟨some 88, none, .fa 1 (.t 87)⟩,
  ⟨some 89, none, .ld (.t 88)⟩,
  ⟨some 90, none, .sl 1 (.t 89) (some (.c (.int .i64 1))) none none⟩,
  ⟨some 91, none, .app 1 1 (.t 84) (.t 90)⟩,
  ⟨some 92, none, .nilc (.t 83)⟩,
  ⟨some 93, none, .fa 9 (.t 92)⟩,
  ⟨some 94, none, .fa 1 (.t 93)⟩,
  ⟨none, none, .st (.t 94) (.t 91)⟩]
def c6_pianolaref15_Bus_B1 : C :=
 .seq (.seq (.ops [⟨some 58, none, .mov (.t 0)⟩,
  ⟨some 59, none, .nilc (.t 58)⟩,
  ⟨some 60, none, .fa 9 (.t 59)⟩,
  ⟨some 61, none, .fa 4 (.t 60)⟩,
  ⟨some 62, none, .ld (.t 61)⟩,
  ⟨some 63, none, .len 1 (.t 62)⟩,
  ⟨some 64, none, .bin .lss (.t 63) (.c (.int .i64 65536))⟩])
  (.cond (.t 64)
  (c4_pianolaref15_Bus_B1)
  (.skip)))
  (c5_pianolaref15_Bus_B1)
def c7_pianolaref15_Bus_B1 : C :=
 .any 0 [.op 3 ⟨some 105, none, .fa 0 (.t 3)⟩,
  .op 4 ⟨some 106, none, .ld (.t 105)⟩,
  .op 0 ⟨some 102, none, .mov (.t 0)⟩,
  .op 1 ⟨some 103, none, .nilc (.t 102)⟩,
  .op 2 ⟨some 104, none, .fa 1 (.t 103)⟩,
  .op 5 ⟨some 107, none, .bin .add (.t 106) (.c (.int .i64 8))⟩,
  .op 6 ⟨some 108, none, .call n_pianolaref9_Wheel_Arm [(.t 104), (.c (.int .i64 3)), (.t 107)]⟩]
def c8_pianolaref15_Bus_B1 : C :=
 .seq (.ops [⟨some 95, none, .mov (.t 0)⟩,
  ⟨some 96, none, .nilc (.t 95)⟩,
  ⟨some 97, none, .fa 9 (.t 96)⟩,
  ⟨some 98, none, .fa 1 (.t 97)⟩,
  ⟨some 99, none, .ld (.t 98)⟩,
  ⟨some 100, none, .len 1 (.t 99)⟩,
  ⟨some 101, none, .bin .gtr (.t 100) (.c (.int .i64 0))⟩])
  (.cond (.t 101)
  (c7_pianolaref15_Bus_B1)
  (.skip))
def c9_pianolaref15_Bus_B1 : C :=
 .seq (.seq (.ops [⟨some 51, none, .mov (.t 0)⟩,
  ⟨some 52, none, .nilc (.t 51)⟩,
  ⟨some 53, none, .fa 9 (.t 52)⟩,
  ⟨some 54, none, .fa 1 (.t 53)⟩,
  ⟨some 55, none, .ld (.t 54)⟩,
  ⟨some 56, none, .len 1 (.t 55)⟩,
  ⟨some 57, none, .bin .gtr (.t 56) (.c (.int .i64 0))⟩])
  (.cond (.t 57)
  (c6_pianolaref15_Bus_B1)
  (.skip)))
  (c8_pianolaref15_Bus_B1)
def c10_pianolaref15_Bus_B1 : C :=
 .cond (.t 109)
  (.ops [⟨some 111, none, .mov (.t 0)⟩,
  ⟨some 112, none, .call n_pianolaref15_Bus_move [(.t 111)]⟩])
  (.seq (.ops [⟨some 114, none, .bin .eql (.t 6) (.c (.int .i64 5))⟩,
  ⟨some 113, none, .mov (.t 114)⟩])
  (.cond (.t 113)
  (.ops [⟨some 115, none, .mov (.t 0)⟩,
  ⟨some 116, none, .call n_pianolaref15_Bus_sector [(.t 115)]⟩])
  (.skip)))
def c11_pianolaref15_Bus_B1 : C :=
 .block 0
  (.seq (.seq (.ops [⟨some 8, none, .bin .eql (.t 6) (.c (.int .i64 1))⟩,
  ⟨some 7, none, .mov (.t 8)⟩])
  (.cond (.t 7)
  (.skip)
  (.ops [⟨some 9, none, .bin .eql (.t 6) (.c (.int .i64 2))⟩,
  ⟨some 7, none, .mov (.t 9)⟩])))
  (.cond (.t 7)
  (c3_pianolaref15_Bus_B1)
  (.seq (.ops [⟨some 50, none, .bin .eql (.t 6) (.c (.int .i64 3))⟩,
  ⟨some 49, none, .mov (.t 50)⟩])
  (.cond (.t 49)
  (c9_pianolaref15_Bus_B1)
  (.seq (.ops [⟨some 110, none, .bin .eql (.t 6) (.c (.int .i64 4))⟩,
  ⟨some 109, none, .mov (.t 110)⟩])
  (c10_pianolaref15_Bus_B1))))))
def c_pianolaref15_Bus_B1 : C :=
 .seq (.ops [⟨some 3, none, .box (.t 1)⟩])
  (.seq (.ops [⟨some 5, none, .fa 1 (.t 3)⟩,
  ⟨some 6, none, .ld (.t 5)⟩])
  (c11_pianolaref15_Bus_B1))
def f_pianolaref15_Bus_B1 : F := ⟨c_pianolaref15_Bus_B1, [], some []⟩
theorem h_pianolaref15_Bus_B1 : compF Try.prog (compAny Try.prog) n_pianolaref15_Bus_B1 = some (f_pianolaref15_Bus_B1.body, f_pianolaref15_Bus_B1.res) := by kernel_rfl
/- (*pianola/ram.Ram).Store -/
def c0_ram_Ram_Store : C :=
 .any 0 [.op 0 ⟨some 19, none, .mov (.t 0)⟩,
  .op 1 ⟨some 20, none, .nilc (.t 19)⟩,
  .op 2 ⟨some 21, none, .fa 0 (.t 20)⟩,
  .op 3 ⟨some 22, none, .ld (.t 21)⟩,
  .op 4 ⟨some 23, none, .mov (.t 1)⟩,
  .op 5 ⟨some 24, none, .conv .i64 (.t 23)⟩,
  .op 6 ⟨some 25, none, .mov (.t 2)⟩,
  .op 7 ⟨some 26, none, .bin .add (.t 24) (.t 25)⟩,
  .op 8 ⟨some 27, none, .bin .sub (.t 26) (.c (.int .i64 1))⟩,
  .op 9 ⟨some 28, none, .mov (.t 9)⟩,
  .op 10 ⟨some 29, none, .bin .sub (.t 27) (.t 28)⟩,
  .op 11 ⟨some 30, none, .mov (.t 3)⟩,
  .op 12 ⟨some 31, none, .mov (.t 9)⟩,
  .op 13 ⟨some 32, none, .bin .mul (.c (.int .i64 8)) (.t 31)⟩,
  .op 14 ⟨some 33, none, .bin .shr (.t 30) (.t 32)⟩,
  .op 15 ⟨some 34, none, .conv .u8 (.t 33)⟩,
  .op 16 ⟨some 35, none, .ia 1 (.t 22) (.t 29)⟩,
  .op 17 ⟨none, none, .st (.t 35) (.t 34)⟩]
def c1_ram_Ram_Store : C :=
 .seq (.ops [⟨some 17, none, .bin .lss (.t 16) (.t 15)⟩])
  (.seq (.cond (.t 17)
  (.skip)
  (.exit 0))
  (.seq (.block 1
  (.seq (.ops [⟨some 18, none, .mov (.t 16)⟩,
  ⟨some 9, none, .mov (.t 18)⟩])
  (c0_ram_Ram_Store)))
  (.ops [⟨some 36, none, .bin .add (.t 16) (.c (.int .i64 1))⟩,
  ⟨some 16, none, .mov (.t 36)⟩])))
def c2_ram_Ram_Store : C :=
 .seq (.seq (.ops [⟨some 15, none, .mov (.t 2)⟩,
  ⟨some 16, none, .mov (.c (.int .i64 0))⟩])
  (.block 0
  (.loop c1_ram_Ram_Store)))
  (.seq (.ops [⟨some 37, none, .mov (.t 0)⟩,
  ⟨some 38, none, .mov (.t 1)⟩,
  ⟨some 39, none, .mov (.t 2)⟩,
  ⟨some 40, none, .call n_ram_Ram_touch [(.t 37), (.t 38), (.t 39)]⟩])
  (.seq (.ops [⟨some 8, none, .mov (.c (.bool true))⟩])
  (.ret)))
def c3_ram_Ram_Store : C :=
 .seq (.seq (.ops [⟨some 10, none, .mov (.t 0)⟩,
  ⟨some 11, none, .mov (.t 1)⟩,
  ⟨some 12, none, .mov (.t 2)⟩,
  ⟨some 13, none, .call n_ram_Ram_even [(.t 10), (.t 11), (.t 12)]⟩,
  ⟨some 14, none, .un .not (.t 13)⟩])
  (.cond (.t 14)
  (.seq (.ops [⟨some 8, none, .mov (.c (.bool false))⟩])
  (.ret))
  (.skip)))
  (c2_ram_Ram_Store)
def c_ram_Ram_Store : C :=
 .seq (.ops [⟨some 8, none, .mov (.c (.bool false))⟩])
  (c3_ram_Ram_Store)
def f_ram_Ram_Store : F := ⟨c_ram_Ram_Store, [.t 8], some []⟩
theorem h_ram_Ram_Store : compF Try.prog (compAny Try.prog) n_ram_Ram_Store = some (f_ram_Ram_Store.body, f_ram_Ram_Store.res) := by kernel_rfl
/- (*pianola/pianolaref2.Ram).Store -/
def c0_pianolaref2_Ram_Store : C :=
 .seq (.block 1
  (.ops [⟨some 39, none, .mov (.t 0)⟩,
  ⟨some 40, none, .nilc (.t 39)⟩,
  ⟨some 41, none, .fa 0 (.t 40)⟩,
  ⟨some 42, none, .ld (.t 41)⟩,
  ⟨some 43, none, .mov (.t 1)⟩,
  ⟨some 44, none, .conv .i64 (.t 43)⟩,
  ⟨some 45, none, .mov (.t 9)⟩,
  ⟨some 46, none, .bin .add (.t 44) (.t 45)⟩,
  ⟨some 47, none, .mov (.t 3)⟩,
  ⟨some 48, none, .mov (.t 2)⟩,
  ⟨some 49, none, .bin .sub (.t 48) (.c (.int .i64 1))⟩,
  ⟨some 50, none, .mov (.t 9)⟩,
  ⟨some 51, none, .bin .sub (.t 49) (.t 50)⟩,
  ⟨some 52, none, .bin .mul (.c (.int .i64 8)) (.t 51)⟩,
  ⟨some 53, none, .conv .u64 (.t 52)⟩,
  ⟨some 54, none, .bin .shr (.t 47) (.t 53)⟩,
  ⟨some 55, none, .conv .u8 (.t 54)⟩,
  ⟨some 56, none, .ia 1 (.t 42) (.t 46)⟩,
  ⟨none, none, .st (.t 56) (.t 55)⟩]))
  (.ops [⟨some 37, none, .mov (.t 9)⟩,
  ⟨some 38, none, .bin .add (.t 37) (.c (.int .i64 1))⟩,
  ⟨some 9, none, .mov (.t 38)⟩])
def c1_pianolaref2_Ram_Store : C :=
 .seq (.seq (.ops [⟨some 34, none, .mov (.t 9)⟩,
  ⟨some 35, none, .mov (.t 2)⟩,
  ⟨some 36, none, .bin .lss (.t 34) (.t 35)⟩])
  (.cond (.t 36)
  (.skip)
  (.exit 0)))
  (c0_pianolaref2_Ram_Store)
def c2_pianolaref2_Ram_Store : C :=
 .seq (.seq (.ops [⟨some 9, none, .mov (.c (.int .i64 0))⟩])
  (.block 0
  (.loop c1_pianolaref2_Ram_Store)))
  (.seq (.ops [⟨some 57, none, .mov (.t 0)⟩,
  ⟨some 58, none, .mov (.t 1)⟩,
  ⟨some 59, none, .mov (.t 2)⟩,
  ⟨some 60, none, .call n_pianolaref2_Ram_touch [(.t 57), (.t 58), (.t 59)]⟩])
  (.seq (.ops [⟨some 8, none, .mov (.c (.bool true))⟩])
  (.ret)))
def c3_pianolaref2_Ram_Store : C :=
 .seq (.seq (.ops [⟨some 10, none, .mov (.t 2)⟩,
  ⟨some 11, none, .bin .neq (.t 10) (.c (.int .i64 1))⟩,
  ⟨some 12, none, .mov (.t 11)⟩,
  ⟨some 13, some (12, true), .mov (.t 2)⟩,
  ⟨some 14, some (12, true), .bin .neq (.t 13) (.c (.int .i64 2))⟩,
  ⟨some 15, none, .pick (.t 12) (.t 14) (.c (.bool false))⟩,
  ⟨some 16, none, .mov (.t 15)⟩,
  ⟨some 17, some (16, true), .mov (.t 2)⟩,
  ⟨some 18, some (16, true), .bin .neq (.t 17) (.c (.int .i64 4))⟩,
  ⟨some 19, none, .pick (.t 16) (.t 18) (.c (.bool false))⟩,
  ⟨some 20, none, .mov (.t 19)⟩,
  ⟨some 21, some (20, false), .mov (.t 1)⟩,
  ⟨some 22, some (20, false), .mov (.t 2)⟩,
  ⟨some 23, some (20, false), .conv .u32 (.t 22)⟩,
  ⟨some 24, some (20, false), .bin .rem (.t 21) (.t 23)⟩,
  ⟨some 25, some (20, false), .bin .neq (.t 24) (.c (.int .u32 0))⟩,
  ⟨some 26, none, .pick (.t 20) (.c (.bool true)) (.t 25)⟩,
  ⟨some 27, none, .mov (.t 26)⟩,
  ⟨some 28, some (27, false), .mov (.t 0)⟩,
  ⟨some 29, some (27, false), .mov (.t 1)⟩,
  ⟨some 30, some (27, false), .mov (.t 2)⟩,
  ⟨some 31, some (27, false), .call n_pianolaref2_Ram_In [(.t 28), (.t 29), (.t 30)]⟩,
  ⟨some 32, some (27, false), .un .not (.t 31)⟩,
  ⟨some 33, none, .pick (.t 27) (.c (.bool true)) (.t 32)⟩])
  (.cond (.t 33)
  (.seq (.ops [⟨some 8, none, .mov (.c (.bool false))⟩])
  (.ret))
  (.skip)))
  (c2_pianolaref2_Ram_Store)
def c_pianolaref2_Ram_Store : C :=
 .seq (.ops [⟨some 8, none, .mov (.c (.bool false))⟩])
  (c3_pianolaref2_Ram_Store)
def f_pianolaref2_Ram_Store : F := ⟨c_pianolaref2_Ram_Store, [.t 8], some []⟩
theorem h_pianolaref2_Ram_Store : compF Try.prog (compAny Try.prog) n_pianolaref2_Ram_Store = some (f_pianolaref2_Ram_Store.body, f_pianolaref2_Ram_Store.res) := by kernel_rfl
/- (*pianola/disk.Disk).Write -/
def c0_disk_Disk_Write : C :=
 .ops [⟨some 30, none, .mov (.t 0)⟩,
  ⟨some 31, none, .nilc (.t 30)⟩,
  ⟨some 32, none, .fa 7 (.t 31)⟩,
  ⟨some 33, none, .ld (.t 32)⟩,
  ⟨some 34, none, .mov (.t 2)⟩,
  ⟨some 35, none, .bin .and (.t 34) (.c (.int .u32 6))⟩,
  ⟨some 36, none, .bin .andNot (.t 33) (.t 35)⟩,
  ⟨some 37, none, .nilc (.t 30)⟩,
  ⟨some 38, none, .fa 7 (.t 37)⟩,
  ⟨none, none, .st (.t 38) (.t 36)⟩]
def c1_disk_Disk_Write : C :=
 .cond (.t 22)
  (.ops [⟨some 24, none, .mov (.t 0)⟩,
  ⟨some 25, none, .mov (.t 2)⟩,
  ⟨some 26, none, .mov (.t 3)⟩,
  ⟨some 27, none, .call n_disk_Disk_begin [(.t 24), (.t 25), (.t 26)]⟩])
  (.seq (.ops [⟨some 29, none, .bin .eql (.t 9) (.c (.int .u32 12))⟩,
  ⟨some 28, none, .mov (.t 29)⟩])
  (.cond (.t 28)
  (c0_disk_Disk_Write)
  (.seq (.ops [⟨some 8, none, .mov (.c (.bool false))⟩])
  (.ret))))
def c2_disk_Disk_Write : C :=
 .seq (.ops [⟨some 17, none, .bin .eql (.t 9) (.c (.int .u32 4))⟩,
  ⟨some 16, none, .mov (.t 17)⟩])
  (.cond (.t 16)
  (.ops [⟨some 18, none, .mov (.t 0)⟩,
  ⟨some 19, none, .mov (.t 2)⟩,
  ⟨some 20, none, .nilc (.t 18)⟩,
  ⟨some 21, none, .fa 5 (.t 20)⟩,
  ⟨none, none, .st (.t 21) (.t 19)⟩])
  (.seq (.ops [⟨some 23, none, .bin .eql (.t 9) (.c (.int .u32 8))⟩,
  ⟨some 22, none, .mov (.t 23)⟩])
  (c1_disk_Disk_Write)))
def c3_disk_Disk_Write : C :=
 .block 0
  (.seq (.ops [⟨some 11, none, .bin .eql (.t 9) (.c (.int .u32 0))⟩,
  ⟨some 10, none, .mov (.t 11)⟩])
  (.cond (.t 10)
  (.ops [⟨some 12, none, .mov (.t 0)⟩,
  ⟨some 13, none, .mov (.t 2)⟩,
  ⟨some 14, none, .nilc (.t 12)⟩,
  ⟨some 15, none, .fa 4 (.t 14)⟩,
  ⟨none, none, .st (.t 15) (.t 13)⟩])
  (c2_disk_Disk_Write)))
def c_disk_Disk_Write : C :=
 .seq (.ops [⟨some 8, none, .mov (.c (.bool false))⟩])
  (.seq (.seq (.ops [⟨some 9, none, .mov (.t 1)⟩])
  (c3_disk_Disk_Write))
  (.seq (.ops [⟨some 8, none, .mov (.c (.bool true))⟩])
  (.ret)))
def f_disk_Disk_Write : F := ⟨c_disk_Disk_Write, [.t 8], some []⟩
theorem h_disk_Disk_Write : compF Try.prog (compAny Try.prog) n_disk_Disk_Write = some (f_disk_Disk_Write.body, f_disk_Disk_Write.res) := by kernel_rfl
/- (*pianola/pianolaref15.Bus).Set -/
def c0_pianolaref15_Bus_Set : C :=
 .seq (.seq (.ops [⟨some 17, none, .mov (.t 2)⟩,
  ⟨some 18, none, .bin .eql (.t 17) (.c (.int .u32 4))⟩])
  (.cond (.t 18)
  (.ops [⟨some 19, none, .mov (.t 0)⟩,
  ⟨some 20, none, .mov (.t 3)⟩,
  ⟨some 21, none, .bin .and (.t 20) (.c (.int .u32 62))⟩,
  ⟨some 22, none, .nilc (.t 19)⟩,
  ⟨some 23, none, .fa 24 (.t 22)⟩,
  ⟨none, none, .st (.t 23) (.t 21)⟩])
  (.skip)))
  (.seq (.ops [⟨some 24, none, .mov (.t 2)⟩,
  ⟨some 25, none, .bin .lss (.t 24) (.c (.int .u32 16))⟩,
  ⟨some 10, none, .mov (.t 25)⟩])
  (.ret))
def c1_pianolaref15_Bus_Set : C :=
 .seq (.ops [⟨some 29, none, .mov (.t 0)⟩,
  ⟨some 30, none, .mov (.t 1)⟩,
  ⟨some 31, none, .mov (.t 2)⟩,
  ⟨some 32, none, .bin .quo (.t 31) (.c (.int .u32 4))⟩,
  ⟨some 33, none, .mov (.t 3)⟩,
  ⟨some 34, none, .mov (.t 4)⟩,
  ⟨some 35, none, .call n_pianolaref15_Bus_timer [(.t 29), (.t 30), (.t 32), (.t 33), (.t 34)]⟩,
  ⟨some 10, none, .mov (.t 35)⟩])
  (.ret)
def c2_pianolaref15_Bus_Set : C :=
 .cond (.t 52)
  (.seq (.ops [⟨some 54, none, .mov (.t 0)⟩,
  ⟨some 55, none, .mov (.t 2)⟩,
  ⟨some 56, none, .bin .quo (.t 55) (.c (.int .u32 4))⟩,
  ⟨some 57, none, .mov (.t 3)⟩,
  ⟨some 58, none, .mov (.t 4)⟩,
  ⟨some 59, none, .call n_pianolaref15_Bus_disk [(.t 54), (.t 56), (.t 57), (.t 58)]⟩,
  ⟨some 10, none, .mov (.t 59)⟩])
  (.ret))
  (.skip)
def c3_pianolaref15_Bus_Set : C :=
 .cond (.t 44)
  (.seq (.ops [⟨some 46, none, .mov (.t 0)⟩,
  ⟨some 47, none, .mov (.t 2)⟩,
  ⟨some 48, none, .bin .quo (.t 47) (.c (.int .u32 4))⟩,
  ⟨some 49, none, .mov (.t 3)⟩,
  ⟨some 50, none, .mov (.t 4)⟩,
  ⟨some 51, none, .call n_pianolaref15_Bus_dma [(.t 46), (.t 48), (.t 49), (.t 50)]⟩,
  ⟨some 10, none, .mov (.t 51)⟩])
  (.ret))
  (.seq (.ops [⟨some 53, none, .bin .eql (.t 14) (.c (.int .i64 5))⟩,
  ⟨some 52, none, .mov (.t 53)⟩])
  (c2_pianolaref15_Bus_Set))
def c4_pianolaref15_Bus_Set : C :=
 .cond (.t 36)
  (.seq (.ops [⟨some 38, none, .mov (.t 0)⟩,
  ⟨some 39, none, .mov (.t 2)⟩,
  ⟨some 40, none, .bin .quo (.t 39) (.c (.int .u32 4))⟩,
  ⟨some 41, none, .mov (.t 3)⟩,
  ⟨some 42, none, .mov (.t 4)⟩,
  ⟨some 43, none, .call n_pianolaref15_Bus_uart [(.t 38), (.t 40), (.t 41), (.t 42)]⟩,
  ⟨some 10, none, .mov (.t 43)⟩])
  (.ret))
  (.seq (.ops [⟨some 45, none, .bin .eql (.t 14) (.c (.int .i64 4))⟩,
  ⟨some 44, none, .mov (.t 45)⟩])
  (c3_pianolaref15_Bus_Set))
def c5_pianolaref15_Bus_Set : C :=
 .seq (.seq (.ops [⟨some 27, none, .bin .eql (.t 14) (.c (.int .i64 1))⟩,
  ⟨some 26, none, .mov (.t 27)⟩])
  (.cond (.t 26)
  (.skip)
  (.ops [⟨some 28, none, .bin .eql (.t 14) (.c (.int .i64 2))⟩,
  ⟨some 26, none, .mov (.t 28)⟩])))
  (.cond (.t 26)
  (c1_pianolaref15_Bus_Set)
  (.seq (.ops [⟨some 37, none, .bin .eql (.t 14) (.c (.int .i64 3))⟩,
  ⟨some 36, none, .mov (.t 37)⟩])
  (c4_pianolaref15_Bus_Set)))
def c6_pianolaref15_Bus_Set : C :=
 .seq (.seq (.ops [⟨some 11, none, .mov (.t 2)⟩,
  ⟨some 12, none, .bin .rem (.t 11) (.c (.int .u32 4))⟩,
  ⟨some 13, none, .bin .neq (.t 12) (.c (.int .u32 0))⟩])
  (.cond (.t 13)
  (.seq (.ops [⟨some 10, none, .mov (.c (.bool false))⟩])
  (.ret))
  (.skip)))
  (.seq (.seq (.ops [⟨some 14, none, .mov (.t 1)⟩])
  (.block 0
  (.seq (.ops [⟨some 16, none, .bin .eql (.t 14) (.c (.int .i64 0))⟩,
  ⟨some 15, none, .mov (.t 16)⟩])
  (.cond (.t 15)
  (c0_pianolaref15_Bus_Set)
  (c5_pianolaref15_Bus_Set)))))
  (.seq (.ops [⟨some 10, none, .mov (.c (.bool false))⟩])
  (.ret)))
def c_pianolaref15_Bus_Set : C :=
 .seq (.ops [⟨some 10, none, .mov (.c (.bool false))⟩])
  (c6_pianolaref15_Bus_Set)
def f_pianolaref15_Bus_Set : F := ⟨c_pianolaref15_Bus_Set, [.t 10], some []⟩
theorem h_pianolaref15_Bus_Set : compF Try.prog (compAny Try.prog) n_pianolaref15_Bus_Set = some (f_pianolaref15_Bus_Set.body, f_pianolaref15_Bus_Set.res) := by kernel_rfl
/- (*pianola/disk.Disk).Line -/
def c_disk_Disk_Line : C :=
 .seq (.ops [⟨some 2, none, .mov (.c (.bool false))⟩])
  (.seq (.ops [⟨some 3, none, .mov (.t 0)⟩,
  ⟨some 4, none, .nilc (.t 3)⟩,
  ⟨some 5, none, .fa 7 (.t 4)⟩,
  ⟨some 6, none, .ld (.t 5)⟩,
  ⟨some 7, none, .bin .and (.t 6) (.c (.int .u32 6))⟩,
  ⟨some 8, none, .bin .neq (.t 7) (.c (.int .u32 0))⟩,
  ⟨some 2, none, .mov (.t 8)⟩])
  (.ret))
def f_disk_Disk_Line : F := ⟨c_disk_Disk_Line, [.t 2], some []⟩
theorem h_disk_Disk_Line : compF Try.prog (compAny Try.prog) n_disk_Disk_Line = some (f_disk_Disk_Line.body, f_disk_Disk_Line.res) := by kernel_rfl
/- (*pianola/pianolaref15.Bus).Line -/
def c0_pianolaref15_Bus_Line : C :=
 .seq (.ops [⟨some 9, none, .mov (.t 0)⟩,
  ⟨some 10, none, .mov (.t 1)⟩,
  ⟨some 11, none, .bin .sub (.t 10) (.c (.int .i64 1))⟩,
  ⟨some 12, none, .nilc (.t 9)⟩,
  ⟨some 13, none, .fa 3 (.t 12)⟩,
  ⟨some 14, none, .iaa 2 3 (.t 13) (.t 11)⟩,
  ⟨some 15, none, .fa 2 (.t 14)⟩,
  ⟨some 16, none, .ld (.t 15)⟩,
  ⟨some 17, none, .bin .neq (.t 16) (.c (.int .u32 0))⟩,
  ⟨some 4, none, .mov (.t 17)⟩])
  (.ret)
def c1_pianolaref15_Bus_Line : C :=
 .seq (.ops [⟨some 20, none, .mov (.t 0)⟩,
  ⟨some 21, none, .nilc (.t 20)⟩,
  ⟨some 22, none, .fa 9 (.t 21)⟩,
  ⟨some 23, none, .fa 3 (.t 22)⟩,
  ⟨some 24, none, .ld (.t 23)⟩,
  ⟨some 25, none, .bin .and (.t 24) (.c (.int .u32 1))⟩,
  ⟨some 26, none, .bin .neq (.t 25) (.c (.int .u32 0))⟩,
  ⟨some 27, none, .mov (.t 26)⟩,
  ⟨some 28, some (27, true), .mov (.t 0)⟩,
  ⟨some 29, some (27, true), .nilc (.t 28)⟩,
  ⟨some 30, some (27, true), .fa 9 (.t 29)⟩,
  ⟨some 31, some (27, true), .fa 0 (.t 30)⟩,
  ⟨some 32, some (27, true), .ld (.t 31)⟩,
  ⟨some 33, some (27, true), .len 1 (.t 32)⟩,
  ⟨some 34, some (27, true), .bin .gtr (.t 33) (.c (.int .i64 0))⟩,
  ⟨some 35, none, .pick (.t 27) (.t 34) (.c (.bool false))⟩,
  ⟨some 36, none, .mov (.t 35)⟩,
  ⟨some 37, some (36, false), .mov (.t 0)⟩,
  ⟨some 38, some (36, false), .nilc (.t 37)⟩,
  ⟨some 39, some (36, false), .fa 9 (.t 38)⟩,
  ⟨some 40, some (36, false), .fa 3 (.t 39)⟩,
  ⟨some 41, some (36, false), .ld (.t 40)⟩,
  ⟨some 42, some (36, false), .bin .and (.t 41) (.c (.int .u32 2))⟩,
  ⟨some 43, some (36, false), .bin .neq (.t 42) (.c (.int .u32 0))⟩,
  ⟨some 44, some (36, false), .mov (.t 43)⟩,
  ⟨some 45, some (44, true), .mov (.t 0)⟩,
  ⟨some 46, some (44, true), .nilc (.t 45)⟩,
  ⟨some 47, some (44, true), .fa 9 (.t 46)⟩,
  ⟨some 48, some (44, true), .fa 1 (.t 47)⟩,
  ⟨some 49, some (44, true), .ld (.t 48)⟩,
  ⟨some 50, some (44, true), .len 1 (.t 49)⟩,
  ⟨some 51, some (44, true), .bin .eql (.t 50) (.c (.int .i64 0))⟩,
  ⟨some 52, some (36, false), .pick (.t 44) (.t 51) (.c (.bool false))⟩,
  ⟨some 53, none, .pick (.t 36) (.c (.bool true)) (.t 52)⟩,
  ⟨some 4, none, .mov (.t 53)⟩])
  (.ret)
def c2_pianolaref15_Bus_Line : C :=
 .seq (.ops [⟨some 56, none, .mov (.t 0)⟩,
  ⟨some 57, none, .nilc (.t 56)⟩,
  ⟨some 58, none, .fa 14 (.t 57)⟩,
  ⟨some 59, none, .fa 3 (.t 58)⟩,
  ⟨some 60, none, .ld (.t 59)⟩,
  ⟨some 61, none, .bin .and (.t 60) (.c (.int .u32 6))⟩,
  ⟨some 62, none, .bin .neq (.t 61) (.c (.int .u32 0))⟩,
  ⟨some 4, none, .mov (.t 62)⟩])
  (.ret)
def c3_pianolaref15_Bus_Line : C :=
 .seq (.ops [⟨some 65, none, .mov (.t 0)⟩,
  ⟨some 66, none, .nilc (.t 65)⟩,
  ⟨some 67, none, .fa 18 (.t 66)⟩,
  ⟨some 68, none, .fa 3 (.t 67)⟩,
  ⟨some 69, none, .ld (.t 68)⟩,
  ⟨some 70, none, .bin .and (.t 69) (.c (.int .u32 6))⟩,
  ⟨some 71, none, .bin .neq (.t 70) (.c (.int .u32 0))⟩,
  ⟨some 4, none, .mov (.t 71)⟩])
  (.ret)
def c4_pianolaref15_Bus_Line : C :=
 .seq (.ops [⟨some 19, none, .bin .eql (.t 5) (.c (.int .i64 3))⟩,
  ⟨some 18, none, .mov (.t 19)⟩])
  (.cond (.t 18)
  (c1_pianolaref15_Bus_Line)
  (.seq (.ops [⟨some 55, none, .bin .eql (.t 5) (.c (.int .i64 4))⟩,
  ⟨some 54, none, .mov (.t 55)⟩])
  (.cond (.t 54)
  (c2_pianolaref15_Bus_Line)
  (.seq (.ops [⟨some 64, none, .bin .eql (.t 5) (.c (.int .i64 5))⟩,
  ⟨some 63, none, .mov (.t 64)⟩])
  (.cond (.t 63)
  (c3_pianolaref15_Bus_Line)
  (.skip))))))
def c5_pianolaref15_Bus_Line : C :=
 .seq (.seq (.ops [⟨some 5, none, .mov (.t 1)⟩])
  (.block 0
  (.seq (.seq (.ops [⟨some 7, none, .bin .eql (.t 5) (.c (.int .i64 1))⟩,
  ⟨some 6, none, .mov (.t 7)⟩])
  (.cond (.t 6)
  (.skip)
  (.ops [⟨some 8, none, .bin .eql (.t 5) (.c (.int .i64 2))⟩,
  ⟨some 6, none, .mov (.t 8)⟩])))
  (.cond (.t 6)
  (c0_pianolaref15_Bus_Line)
  (c4_pianolaref15_Bus_Line)))))
  (.seq (.ops [⟨some 4, none, .mov (.c (.bool false))⟩])
  (.ret))
def c_pianolaref15_Bus_Line : C :=
 .seq (.ops [⟨some 4, none, .mov (.c (.bool false))⟩])
  (c5_pianolaref15_Bus_Line)
def f_pianolaref15_Bus_Line : F := ⟨c_pianolaref15_Bus_Line, [.t 4], some []⟩
theorem h_pianolaref15_Bus_Line : compF Try.prog (compAny Try.prog) n_pianolaref15_Bus_Line = some (f_pianolaref15_Bus_Line.body, f_pianolaref15_Bus_Line.res) := by kernel_rfl
/- pianola/pianolabook.Same[pianola/api.Event] -/
def c0_pianolabook_Same_api_Event : C :=
 .seq (.block 1
  (.seq (.any 0 [.op 0 ⟨some 17, none, .mov (.t 0)⟩,
  .op 1 ⟨some 18, none, .mov (.t 5)⟩,
  .op 2 ⟨some 19, none, .ia 3 (.t 17) (.t 18)⟩,
  .op 3 ⟨some 20, none, .ldn 3 (.t 19)⟩,
  .op 4 ⟨some 21, none, .mov (.t 1)⟩,
  .op 5 ⟨some 22, none, .mov (.t 5)⟩,
  .op 6 ⟨some 23, none, .ia 3 (.t 21) (.t 22)⟩,
  .op 7 ⟨some 24, none, .ldn 3 (.t 23)⟩,
  .op 8 ⟨some 25, none, .eqt true (.agg [(0, 1, false, (.int .i64)), (1, 1, false, (.int .i64)), (2, 1, false, (.int .i64))]) (.t 20) (.t 24)⟩])
  (.cond (.t 25)
  (.seq (.ops [⟨some 4, none, .mov (.c (.bool false))⟩])
  (.ret))
  (.skip))))
  (.ops [⟨some 15, none, .mov (.t 5)⟩,
  ⟨some 16, none, .bin .add (.t 15) (.c (.int .i64 1))⟩,
  ⟨some 5, none, .mov (.t 16)⟩])
def c1_pianolabook_Same_api_Event : C :=
 .seq (.seq (.ops [⟨some 11, none, .mov (.t 5)⟩,
  ⟨some 12, none, .mov (.t 0)⟩,
  ⟨some 13, none, .len 1 (.t 12)⟩,
  ⟨some 14, none, .bin .lss (.t 11) (.t 13)⟩])
  (.cond (.t 14)
  (.skip)
  (.exit 0)))
  (c0_pianolabook_Same_api_Event)
def c2_pianolabook_Same_api_Event : C :=
 .seq (.seq (.ops [⟨some 6, none, .mov (.t 0)⟩,
  ⟨some 7, none, .len 1 (.t 6)⟩,
  ⟨some 8, none, .mov (.t 1)⟩,
  ⟨some 9, none, .len 1 (.t 8)⟩,
  ⟨some 10, none, .bin .neq (.t 7) (.t 9)⟩])
  (.cond (.t 10)
  (.seq (.ops [⟨some 4, none, .mov (.c (.bool false))⟩])
  (.ret))
  (.skip)))
  (.seq (.seq (.ops [⟨some 5, none, .mov (.c (.int .i64 0))⟩])
  (.block 0
  (.loop c1_pianolabook_Same_api_Event)))
  (.seq (.ops [⟨some 4, none, .mov (.c (.bool true))⟩])
  (.ret)))
def c_pianolabook_Same_api_Event : C :=
 .seq (.ops [⟨some 4, none, .mov (.c (.bool false))⟩])
  (c2_pianolabook_Same_api_Event)
def f_pianolabook_Same_api_Event : F := ⟨c_pianolabook_Same_api_Event, [.t 4], some []⟩
theorem h_pianolabook_Same_api_Event : compF Try.prog (compAny Try.prog) n_pianolabook_Same_api_Event = some (f_pianolabook_Same_api_Event.body, f_pianolabook_Same_api_Event.res) := by kernel_rfl
/- (*pianola/wheel.Wheel).All -/
def c_wheel_Wheel_All : C :=
 .seq (.ops [⟨some 2, none, .mov (.c (.slice none 0 0))⟩])
  (.seq (.ops [⟨some 3, none, .mov (.t 0)⟩,
  ⟨some 4, none, .nilc (.t 3)⟩,
  ⟨some 5, none, .fa 0 (.t 4)⟩,
  ⟨some 6, none, .ld (.t 5)⟩,
  ⟨some 7, none, .call n_slices_Clone_api_Event_api_Event [(.t 6)]⟩,
  ⟨some 2, none, .mov (.t 7)⟩])
  (.ret))
def f_wheel_Wheel_All : F := ⟨c_wheel_Wheel_All, [.t 2], some []⟩
theorem h_wheel_Wheel_All : compF Try.prog (compAny Try.prog) n_wheel_Wheel_All = some (f_wheel_Wheel_All.body, f_wheel_Wheel_All.res) := by kernel_rfl
/- (*pianola/disk.Disk).Bytes -/
def c_disk_Disk_Bytes : C :=
 .seq (.ops [⟨some 2, none, .mov (.c (.slice none 0 0))⟩])
  (.seq (.ops [⟨some 3, none, .mov (.t 0)⟩,
  ⟨some 4, none, .nilc (.t 3)⟩,
  ⟨some 5, none, .fa 3 (.t 4)⟩,
  ⟨some 6, none, .ld (.t 5)⟩,
  ⟨some 7, none, .call n_slices_Clone_byte_byte [(.t 6)]⟩,
  ⟨some 2, none, .mov (.t 7)⟩])
  (.ret))
def f_disk_Disk_Bytes : F := ⟨c_disk_Disk_Bytes, [.t 2], some []⟩
theorem h_disk_Disk_Bytes : compF Try.prog (compAny Try.prog) n_disk_Disk_Bytes = some (f_disk_Disk_Bytes.body, f_disk_Disk_Bytes.res) := by kernel_rfl
/- (*pianola/ram.Ram).there -/
def c0_ram_Ram_there : C :=
 .seq (.ops [⟨some 7, none, .mov (.t 2)⟩,
  ⟨some 8, none, .bin .geq (.t 7) (.c (.int .i64 0))⟩,
  ⟨some 9, none, .mov (.t 8)⟩,
  ⟨some 10, some (9, true), .mov (.t 1)⟩,
  ⟨some 11, some (9, true), .conv .i64 (.t 10)⟩,
  ⟨some 12, some (9, true), .mov (.t 0)⟩,
  ⟨some 13, some (9, true), .nilc (.t 12)⟩,
  ⟨some 14, some (9, true), .fa 0 (.t 13)⟩,
  ⟨some 15, some (9, true), .ld (.t 14)⟩,
  ⟨some 16, some (9, true), .len 1 (.t 15)⟩,
  ⟨some 17, some (9, true), .bin .leq (.t 11) (.t 16)⟩,
  ⟨some 18, none, .pick (.t 9) (.t 17) (.c (.bool false))⟩,
  ⟨some 19, none, .mov (.t 18)⟩,
  ⟨some 20, some (19, true), .mov (.t 2)⟩,
  ⟨some 21, some (19, true), .mov (.t 0)⟩,
  ⟨some 22, some (19, true), .nilc (.t 21)⟩,
  ⟨some 23, some (19, true), .fa 0 (.t 22)⟩,
  ⟨some 24, some (19, true), .ld (.t 23)⟩,
  ⟨some 25, some (19, true), .len 1 (.t 24)⟩,
  ⟨some 26, some (19, true), .mov (.t 1)⟩,
  ⟨some 27, some (19, true), .conv .i64 (.t 26)⟩,
  ⟨some 28, some (19, true), .bin .sub (.t 25) (.t 27)⟩,
  ⟨some 29, some (19, true), .bin .leq (.t 20) (.t 28)⟩,
  ⟨some 30, none, .pick (.t 19) (.t 29) (.c (.bool false))⟩,
  ⟨some 6, none, .mov (.t 30)⟩])
  (.ret)
def c_ram_Ram_there : C :=
 .seq (.ops [⟨some 6, none, .mov (.c (.bool false))⟩])
  (c0_ram_Ram_there)
def f_ram_Ram_there : F := ⟨c_ram_Ram_there, [.t 6], some []⟩
theorem h_ram_Ram_there : compF Try.prog (compAny Try.prog) n_ram_Ram_there = some (f_ram_Ram_there.body, f_ram_Ram_there.res) := by kernel_rfl
/- (*pianola/ram.Ram).touch -/
def c0_ram_Ram_touch : C :=
 .seq (.block 1
  (.any 0 [.op 0 ⟨some 22, none, .mov (.t 0)⟩,
  .op 1 ⟨some 23, none, .nilc (.t 22)⟩,
  .op 2 ⟨some 24, none, .fa 2 (.t 23)⟩,
  .op 3 ⟨some 25, none, .ld (.t 24)⟩,
  .op 5 ⟨some 27, none, .mov (.t 0)⟩,
  .op 6 ⟨some 28, none, .nilc (.t 27)⟩,
  .op 7 ⟨some 29, none, .fa 2 (.t 28)⟩,
  .op 8 ⟨some 30, none, .ld (.t 29)⟩,
  .op 9 ⟨some 31, none, .mov (.t 6)⟩,
  .op 10 ⟨some 32, none, .ia 1 (.t 30) (.t 31)⟩,
  .op 11 ⟨some 33, none, .ld (.t 32)⟩,
  .op 12 ⟨some 34, none, .mov (.t 33)⟩,
  .op 13 ⟨some 35, some (34, false), .mov (.t 0)⟩,
  .op 14 ⟨some 36, some (34, false), .nilc (.t 35)⟩,
  .op 15 ⟨some 37, some (34, false), .fa 1 (.t 36)⟩,
  .op 16 ⟨some 38, some (34, false), .ld (.t 37)⟩,
  .op 17 ⟨some 39, some (34, false), .mov (.t 6)⟩,
  .op 18 ⟨some 40, some (34, false), .ia 1 (.t 38) (.t 39)⟩,
  .op 19 ⟨some 41, some (34, false), .ld (.t 40)⟩,
  .op 4 ⟨some 26, none, .mov (.t 6)⟩,
  .op 20 ⟨some 42, none, .pick (.t 34) (.c (.bool true)) (.t 41)⟩,
  .op 21 ⟨some 43, none, .ia 1 (.t 25) (.t 26)⟩,
  .op 22 ⟨none, none, .st (.t 43) (.t 42)⟩]))
  (.ops [⟨some 20, none, .mov (.t 6)⟩,
  ⟨some 21, none, .bin .add (.t 20) (.c (.int .i64 1))⟩,
  ⟨some 6, none, .mov (.t 21)⟩])
def c1_ram_Ram_touch : C :=
 .seq (.seq (.ops [⟨some 12, none, .mov (.t 6)⟩,
  ⟨some 13, none, .mov (.t 1)⟩,
  ⟨some 14, none, .conv .i64 (.t 13)⟩,
  ⟨some 15, none, .mov (.t 2)⟩,
  ⟨some 16, none, .bin .add (.t 14) (.t 15)⟩,
  ⟨some 17, none, .bin .sub (.t 16) (.c (.int .i64 1))⟩,
  ⟨some 18, none, .bin .quo (.t 17) (.c (.int .i64 1024))⟩,
  ⟨some 19, none, .bin .leq (.t 12) (.t 18)⟩])
  (.cond (.t 19)
  (.skip)
  (.exit 0)))
  (c0_ram_Ram_touch)
def c_ram_Ram_touch : C :=
 .seq (.seq (.ops [⟨some 7, none, .mov (.t 2)⟩,
  ⟨some 8, none, .bin .lss (.t 7) (.c (.int .i64 1))⟩])
  (.cond (.t 8)
  (.ret)
  (.skip)))
  (.seq (.ops [⟨some 9, none, .mov (.t 1)⟩,
  ⟨some 10, none, .conv .i64 (.t 9)⟩,
  ⟨some 11, none, .bin .quo (.t 10) (.c (.int .i64 1024))⟩,
  ⟨some 6, none, .mov (.t 11)⟩])
  (.block 0
  (.loop c1_ram_Ram_touch)))
def f_ram_Ram_touch : F := ⟨c_ram_Ram_touch, [], some []⟩
theorem h_ram_Ram_touch : compF Try.prog (compAny Try.prog) n_ram_Ram_touch = some (f_ram_Ram_touch.body, f_ram_Ram_touch.res) := by kernel_rfl
/- (*pianola/dma.Dma).begin -/
def c0_dma_Dma_begin : C :=
 .any 0 [.op 0 ⟨some 17, none, .mov (.t 0)⟩,
  .op 1 ⟨some 18, none, .nilc (.t 17)⟩,
  .op 2 ⟨some 19, none, .fa 1 (.t 18)⟩,
  .op 3 ⟨some 20, none, .ld (.t 19)⟩,
  .op 4 ⟨some 21, none, .mov (.t 0)⟩,
  .op 5 ⟨some 22, none, .nilc (.t 21)⟩,
  .op 6 ⟨some 23, none, .fa 0 (.t 22)⟩,
  .op 7 ⟨some 24, none, .ld (.t 23)⟩,
  .op 9 ⟨some 26, none, .mov (.t 0)⟩,
  .op 10 ⟨some 27, none, .nilc (.t 26)⟩,
  .op 11 ⟨some 28, none, .fa 5 (.t 27)⟩,
  .op 12 ⟨some 29, none, .ld (.t 28)⟩,
  .op 8 ⟨some 25, none, .mov (.t 1)⟩,
  .op 13 ⟨some 30, none, .mn (.t 29) (.c (.int .u32 4096))⟩,
  .op 14 ⟨some 31, none, .bin .quo (.t 30) (.c (.int .u32 4))⟩,
  .op 15 ⟨some 32, none, .conv .i64 (.t 31)⟩,
  .op 16 ⟨some 33, none, .bin .add (.t 25) (.t 32)⟩,
  .op 17 ⟨some 34, none, .bin .add (.t 33) (.c (.int .i64 1))⟩,
  .op 18 ⟨some 35, none, .call n_wheel_Wheel_Arm [(.t 20), (.t 24), (.t 34)]⟩]
def c1_dma_Dma_begin : C :=
 .seq (.ops [⟨some 10, none, .mov (.t 0)⟩,
  ⟨some 11, none, .nilc (.t 10)⟩,
  ⟨some 12, none, .fa 6 (.t 11)⟩,
  ⟨some 13, none, .ld (.t 12)⟩,
  ⟨some 14, none, .bin .or (.t 13) (.c (.int .u32 1))⟩,
  ⟨some 15, none, .nilc (.t 10)⟩,
  ⟨some 16, none, .fa 6 (.t 15)⟩,
  ⟨none, none, .st (.t 16) (.t 14)⟩])
  (c0_dma_Dma_begin)
def c_dma_Dma_begin : C :=
 .seq (.seq (.ops [⟨some 4, none, .mov (.t 0)⟩,
  ⟨some 5, none, .nilc (.t 4)⟩,
  ⟨some 6, none, .fa 6 (.t 5)⟩,
  ⟨some 7, none, .ld (.t 6)⟩,
  ⟨some 8, none, .bin .and (.t 7) (.c (.int .u32 1))⟩,
  ⟨some 9, none, .bin .neq (.t 8) (.c (.int .u32 0))⟩])
  (.cond (.t 9)
  (.ret)
  (.skip)))
  (c1_dma_Dma_begin)
def f_dma_Dma_begin : F := ⟨c_dma_Dma_begin, [], some []⟩
theorem h_dma_Dma_begin : compF Try.prog (compAny Try.prog) n_dma_Dma_begin = some (f_dma_Dma_begin.body, f_dma_Dma_begin.res) := by kernel_rfl
/- (*pianola/dma.Dma).move -/
def c0_dma_Dma_move : C :=
 .seq (.any 0 [.op 0 ⟨some 27, none, .mov (.t 4)⟩,
  .op 1 ⟨some 28, none, .mov (.t 27)⟩,
  .op 2 ⟨some 29, some (28, true), .mov (.t 0)⟩,
  .op 3 ⟨some 30, some (28, true), .nilc (.t 29)⟩,
  .op 4 ⟨some 31, some (28, true), .fa 2 (.t 30)⟩,
  .op 5 ⟨some 32, some (28, true), .ld (.t 31)⟩,
  .op 6 ⟨some 33, some (28, true), .mov (.t 0)⟩,
  .op 7 ⟨some 34, some (28, true), .nilc (.t 33)⟩,
  .op 8 ⟨some 35, some (28, true), .fa 4 (.t 34)⟩,
  .op 9 ⟨some 36, some (28, true), .ld (.t 35)⟩,
  .op 10 ⟨some 37, some (28, true), .mov (.t 3)⟩,
  .op 11 ⟨some 38, some (28, true), .call n_ram_Ram_Put [(.t 32), (.t 36), (.t 37)]⟩,
  .op 12 ⟨some 39, none, .pick (.t 28) (.t 38) (.c (.bool false))⟩,
  .op 13 ⟨some 2, none, .mov (.t 39)⟩])
  (.ret)
def c1_dma_Dma_move : C :=
 .seq (.any 0 [.op 0 ⟨some 11, none, .mov (.t 0)⟩,
  .op 1 ⟨some 12, none, .nilc (.t 11)⟩,
  .op 2 ⟨some 13, none, .fa 2 (.t 12)⟩,
  .op 3 ⟨some 14, none, .ld (.t 13)⟩,
  .op 4 ⟨some 15, none, .mov (.t 0)⟩,
  .op 5 ⟨some 16, none, .nilc (.t 15)⟩,
  .op 6 ⟨some 17, none, .fa 3 (.t 16)⟩,
  .op 7 ⟨some 18, none, .ld (.t 17)⟩,
  .op 8 ⟨some 19, none, .mov (.t 0)⟩,
  .op 9 ⟨some 20, none, .nilc (.t 19)⟩,
  .op 10 ⟨some 21, none, .fa 5 (.t 20)⟩,
  .op 11 ⟨some 22, none, .ld (.t 21)⟩,
  .op 12 ⟨some 23, none, .conv .i64 (.t 22)⟩,
  .op 13 ⟨some 24, none, .call n_ram_Ram_Bytes [(.t 14), (.t 18), (.t 23)]⟩,
  .op 14 ⟨some 10, none, .mov (.t 24)⟩,
  .op 15 ⟨some 25, none, .ext (.t 10) 0⟩,
  .op 16 ⟨some 26, none, .ext (.t 10) 1⟩,
  .op 17 ⟨some 3, none, .mov (.t 25)⟩,
  .op 18 ⟨some 4, none, .mov (.t 26)⟩])
  (c0_dma_Dma_move)
def c_dma_Dma_move : C :=
 .seq (.ops [⟨some 2, none, .mov (.c (.bool false))⟩])
  (.seq (.seq (.ops [⟨some 5, none, .mov (.t 0)⟩,
  ⟨some 6, none, .nilc (.t 5)⟩,
  ⟨some 7, none, .fa 5 (.t 6)⟩,
  ⟨some 8, none, .ld (.t 7)⟩,
  ⟨some 9, none, .bin .gtr (.t 8) (.c (.int .u32 4096))⟩])
  (.cond (.t 9)
  (.seq (.ops [⟨some 2, none, .mov (.c (.bool false))⟩])
  (.ret))
  (.skip)))
  (c1_dma_Dma_move))
def f_dma_Dma_move : F := ⟨c_dma_Dma_move, [.t 2], some []⟩
theorem h_dma_Dma_move : compF Try.prog (compAny Try.prog) n_dma_Dma_move = some (f_dma_Dma_move.body, f_dma_Dma_move.res) := by kernel_rfl
/- (*pianola/ram.Ram).Load -/
def c0_ram_Ram_Load : C :=
 .seq (.block 1
  (.seq (.ops [⟨some 29, none, .ia 1 (.t 25) (.t 27)⟩,
  ⟨some 30, none, .ld (.t 29)⟩,
  ⟨some 10, none, .mov (.t 30)⟩])
  (.ops [⟨some 31, none, .mov (.t 8)⟩,
  ⟨some 32, none, .bin .shl (.t 31) (.c (.int .u64 8))⟩,
  ⟨some 33, none, .mov (.t 10)⟩,
  ⟨some 34, none, .conv .u32 (.t 33)⟩,
  ⟨some 35, none, .bin .or (.t 32) (.t 34)⟩,
  ⟨some 8, none, .mov (.t 35)⟩])))
  (.ops [⟨some 36, none, .bin .add (.t 27) (.c (.int .i64 1))⟩,
  ⟨some 27, none, .mov (.t 36)⟩])
def c1_ram_Ram_Load : C :=
 .seq (.ops [⟨some 28, none, .bin .lss (.t 27) (.t 26)⟩])
  (.seq (.cond (.t 28)
  (.skip)
  (.exit 0))
  (c0_ram_Ram_Load))
def c2_ram_Ram_Load : C :=
 .seq (.seq (.ops [⟨some 16, none, .mov (.t 0)⟩,
  ⟨some 17, none, .nilc (.t 16)⟩,
  ⟨some 18, none, .fa 0 (.t 17)⟩,
  ⟨some 19, none, .ld (.t 18)⟩,
  ⟨some 20, none, .mov (.t 1)⟩,
  ⟨some 21, none, .mov (.t 1)⟩,
  ⟨some 22, none, .conv .i64 (.t 21)⟩,
  ⟨some 23, none, .mov (.t 2)⟩,
  ⟨some 24, none, .bin .add (.t 22) (.t 23)⟩,
  ⟨some 25, none, .sl 1 (.t 19) (some (.t 20)) (some (.t 24)) none⟩,
  ⟨some 26, none, .len 1 (.t 25)⟩,
  ⟨some 27, none, .mov (.c (.int .i64 0))⟩])
  (.block 0
  (.loop c1_ram_Ram_Load)))
  (.seq (.ops [⟨some 37, none, .mov (.t 8)⟩,
  ⟨some 6, none, .mov (.t 37)⟩,
  ⟨some 7, none, .mov (.c (.bool true))⟩])
  (.ret))
def c3_ram_Ram_Load : C :=
 .seq (.seq (.ops [⟨some 11, none, .mov (.t 0)⟩,
  ⟨some 12, none, .mov (.t 1)⟩,
  ⟨some 13, none, .mov (.t 2)⟩,
  ⟨some 14, none, .call n_ram_Ram_even [(.t 11), (.t 12), (.t 13)]⟩,
  ⟨some 15, none, .un .not (.t 14)⟩])
  (.cond (.t 15)
  (.seq (.ops [⟨some 6, none, .mov (.c (.int .u32 0))⟩,
  ⟨some 7, none, .mov (.c (.bool false))⟩])
  (.ret))
  (.skip)))
  (.seq (.ops [⟨some 8, none, .mov (.c (.int .u32 0))⟩])
  (c2_ram_Ram_Load))
def c_ram_Ram_Load : C :=
 .seq (.ops [⟨some 6, none, .mov (.c (.int .u32 0))⟩,
  ⟨some 7, none, .mov (.c (.bool false))⟩])
  (c3_ram_Ram_Load)
def f_ram_Ram_Load : F := ⟨c_ram_Ram_Load, [.t 6, .t 7], some []⟩
theorem h_ram_Ram_Load : compF Try.prog (compAny Try.prog) n_ram_Ram_Load = some (f_ram_Ram_Load.body, f_ram_Ram_Load.res) := by kernel_rfl
/- (*pianola/dma.Dma).Line -/
def c_dma_Dma_Line : C :=
 .seq (.ops [⟨some 2, none, .mov (.c (.bool false))⟩])
  (.seq (.ops [⟨some 3, none, .mov (.t 0)⟩,
  ⟨some 4, none, .nilc (.t 3)⟩,
  ⟨some 5, none, .fa 6 (.t 4)⟩,
  ⟨some 6, none, .ld (.t 5)⟩,
  ⟨some 7, none, .bin .and (.t 6) (.c (.int .u32 6))⟩,
  ⟨some 8, none, .bin .neq (.t 7) (.c (.int .u32 0))⟩,
  ⟨some 2, none, .mov (.t 8)⟩])
  (.ret))
def f_dma_Dma_Line : F := ⟨c_dma_Dma_Line, [.t 2], some []⟩
theorem h_dma_Dma_Line : compF Try.prog (compAny Try.prog) n_dma_Dma_Line = some (f_dma_Dma_Line.body, f_dma_Dma_Line.res) := by kernel_rfl
/- (*pianola/ram.Ram).Size -/
def c_ram_Ram_Size : C :=
 .seq (.ops [⟨some 2, none, .mov (.c (.int .u32 0))⟩])
  (.seq (.ops [⟨some 3, none, .mov (.t 0)⟩,
  ⟨some 4, none, .nilc (.t 3)⟩,
  ⟨some 5, none, .fa 0 (.t 4)⟩,
  ⟨some 6, none, .ld (.t 5)⟩,
  ⟨some 7, none, .len 1 (.t 6)⟩,
  ⟨some 8, none, .conv .u32 (.t 7)⟩,
  ⟨some 2, none, .mov (.t 8)⟩])
  (.ret))
def f_ram_Ram_Size : F := ⟨c_ram_Ram_Size, [.t 2], some []⟩
theorem h_ram_Ram_Size : compF Try.prog (compAny Try.prog) n_ram_Ram_Size = some (f_ram_Ram_Size.body, f_ram_Ram_Size.res) := by kernel_rfl
/- pianola/lines.New -/
def c_lines_New : C :=
 .seq (.ops [⟨some 0, none, .mov (.c (.pointer none))⟩])
  (.seq (.ops [⟨some 1, none, .build [(.int .u32 0), (.int .u32 0)] []⟩,
  ⟨some 2, none, .box (.t 1)⟩,
  ⟨some 0, none, .mov (.t 2)⟩])
  (.ret))
def f_lines_New : F := ⟨c_lines_New, [.t 0], some []⟩
theorem h_lines_New : compF Try.prog (compAny Try.prog) n_lines_New = some (f_lines_New.body, f_lines_New.res) := by kernel_rfl
/- pianola/timer.New -/
def c0_timer_New : C :=
 .seq (.seq (.ops [⟨some 5, none, .mov (.t 1)⟩,
  ⟨some 6, none, .eqn 0 false (.t 5)⟩])
  (.cond (.t 6)
  (.seq (.ops [⟨some 4, none, .mov (.c (.pointer none))⟩])
  (.ret))
  (.skip)))
  (.seq (.ops [⟨some 7, none, .mov (.t 0)⟩,
  ⟨some 8, none, .mov (.t 1)⟩,
  ⟨some 9, none, .build [(.int .i64 0), (.pointer none), (.int .u32 0), (.int .u32 0), (.int .u32 0)] [(0, 1, (.t 7)), (1, 1, (.t 8))]⟩,
  ⟨some 10, none, .box (.t 9)⟩,
  ⟨some 4, none, .mov (.t 10)⟩])
  (.ret))
def c_timer_New : C :=
 .seq (.ops [⟨some 4, none, .mov (.c (.pointer none))⟩])
  (c0_timer_New)
def f_timer_New : F := ⟨c_timer_New, [.t 4], some []⟩
theorem h_timer_New : compF Try.prog (compAny Try.prog) n_timer_New = some (f_timer_New.body, f_timer_New.res) := by kernel_rfl
/- pianola/bus.window -/
def c0_bus_window : C :=
 .seq (.ops [⟨some 22, none, .mov (.t 7)⟩,
  ⟨some 23, none, .conv .i64 (.t 22)⟩,
  ⟨some 24, none, .mov (.t 0)⟩,
  ⟨some 25, none, .bin .sub (.t 24) (.c (.int .u32 520093696))⟩,
  ⟨some 26, none, .bin .rem (.t 25) (.c (.int .u32 64))⟩,
  ⟨some 27, none, .mov (.t 7)⟩,
  ⟨some 28, none, .bin .leq (.t 27) (.c (.int .u32 5))⟩,
  ⟨some 4, none, .mov (.t 23)⟩,
  ⟨some 5, none, .mov (.t 26)⟩,
  ⟨some 6, none, .mov (.t 28)⟩])
  (.ret)
def c1_bus_window : C :=
 .seq (.seq (.ops [⟨some 8, none, .mov (.t 1)⟩,
  ⟨some 9, none, .bin .neq (.t 8) (.c (.int .i64 4))⟩,
  ⟨some 10, none, .mov (.t 9)⟩,
  ⟨some 11, some (10, false), .mov (.t 0)⟩,
  ⟨some 12, some (10, false), .bin .lss (.t 11) (.c (.int .u32 520093696))⟩,
  ⟨some 13, none, .pick (.t 10) (.c (.bool true)) (.t 12)⟩,
  ⟨some 14, none, .mov (.t 13)⟩,
  ⟨some 15, some (14, false), .mov (.t 0)⟩,
  ⟨some 16, some (14, false), .bin .rem (.t 15) (.c (.int .u32 4))⟩,
  ⟨some 17, some (14, false), .bin .neq (.t 16) (.c (.int .u32 0))⟩,
  ⟨some 18, none, .pick (.t 14) (.c (.bool true)) (.t 17)⟩])
  (.cond (.t 18)
  (.seq (.ops [⟨some 4, none, .mov (.c (.int .i64 0))⟩,
  ⟨some 5, none, .mov (.c (.int .u32 0))⟩,
  ⟨some 6, none, .mov (.c (.bool false))⟩])
  (.ret))
  (.skip)))
  (.seq (.ops [⟨some 19, none, .mov (.t 0)⟩,
  ⟨some 20, none, .bin .sub (.t 19) (.c (.int .u32 520093696))⟩,
  ⟨some 21, none, .bin .quo (.t 20) (.c (.int .u32 64))⟩,
  ⟨some 7, none, .mov (.t 21)⟩])
  (c0_bus_window))
def c_bus_window : C :=
 .seq (.ops [⟨some 4, none, .mov (.c (.int .i64 0))⟩,
  ⟨some 5, none, .mov (.c (.int .u32 0))⟩,
  ⟨some 6, none, .mov (.c (.bool false))⟩])
  (c1_bus_window)
def f_bus_window : F := ⟨c_bus_window, [.t 4, .t 5, .t 6], some []⟩
theorem h_bus_window : compF Try.prog (compAny Try.prog) n_bus_window = some (f_bus_window.body, f_bus_window.res) := by kernel_rfl
/- (*pianola/bus.Bus).write -/
def c0_bus_Bus_write : C :=
 .seq (.ops [⟨some 23, none, .mov (.t 0)⟩,
  ⟨some 24, none, .nilc (.t 23)⟩,
  ⟨some 25, none, .fa 3 (.t 24)⟩,
  ⟨some 26, none, .ld (.t 25)⟩,
  ⟨some 27, none, .mov (.t 2)⟩,
  ⟨some 28, none, .mov (.t 3)⟩,
  ⟨some 29, none, .mov (.t 4)⟩,
  ⟨some 30, none, .call n_timer_Timer_Write [(.t 26), (.t 27), (.t 28), (.t 29)]⟩,
  ⟨some 10, none, .mov (.t 30)⟩])
  (.ret)
def c1_bus_Bus_write : C :=
 .seq (.ops [⟨some 33, none, .mov (.t 0)⟩,
  ⟨some 34, none, .nilc (.t 33)⟩,
  ⟨some 35, none, .fa 4 (.t 34)⟩,
  ⟨some 36, none, .ld (.t 35)⟩,
  ⟨some 37, none, .mov (.t 2)⟩,
  ⟨some 38, none, .mov (.t 3)⟩,
  ⟨some 39, none, .mov (.t 4)⟩,
  ⟨some 40, none, .call n_timer_Timer_Write [(.t 36), (.t 37), (.t 38), (.t 39)]⟩,
  ⟨some 10, none, .mov (.t 40)⟩])
  (.ret)
def c2_bus_Bus_write : C :=
 .seq (.ops [⟨some 43, none, .mov (.t 0)⟩,
  ⟨some 44, none, .nilc (.t 43)⟩,
  ⟨some 45, none, .fa 5 (.t 44)⟩,
  ⟨some 46, none, .ld (.t 45)⟩,
  ⟨some 47, none, .mov (.t 2)⟩,
  ⟨some 48, none, .mov (.t 3)⟩,
  ⟨some 49, none, .mov (.t 4)⟩,
  ⟨some 50, none, .call n_uart_Uart_Write [(.t 46), (.t 47), (.t 48), (.t 49)]⟩,
  ⟨some 10, none, .mov (.t 50)⟩])
  (.ret)
def c3_bus_Bus_write : C :=
 .seq (.ops [⟨some 53, none, .mov (.t 0)⟩,
  ⟨some 54, none, .nilc (.t 53)⟩,
  ⟨some 55, none, .fa 6 (.t 54)⟩,
  ⟨some 56, none, .ld (.t 55)⟩,
  ⟨some 57, none, .mov (.t 2)⟩,
  ⟨some 58, none, .mov (.t 3)⟩,
  ⟨some 59, none, .mov (.t 4)⟩,
  ⟨some 60, none, .call n_dma_Dma_Write [(.t 56), (.t 57), (.t 58), (.t 59)]⟩,
  ⟨some 10, none, .mov (.t 60)⟩])
  (.ret)
def c4_bus_Bus_write : C :=
 .seq (.ops [⟨some 32, none, .bin .eql (.t 11) (.c (.int .i64 2))⟩,
  ⟨some 31, none, .mov (.t 32)⟩])
  (.cond (.t 31)
  (c1_bus_Bus_write)
  (.seq (.ops [⟨some 42, none, .bin .eql (.t 11) (.c (.int .i64 3))⟩,
  ⟨some 41, none, .mov (.t 42)⟩])
  (.cond (.t 41)
  (c2_bus_Bus_write)
  (.seq (.ops [⟨some 52, none, .bin .eql (.t 11) (.c (.int .i64 4))⟩,
  ⟨some 51, none, .mov (.t 52)⟩])
  (.cond (.t 51)
  (c3_bus_Bus_write)
  (.skip))))))
def c5_bus_Bus_write : C :=
 .cond (.t 12)
  (.seq (.ops [⟨some 14, none, .mov (.t 0)⟩,
  ⟨some 15, none, .nilc (.t 14)⟩,
  ⟨some 16, none, .fa 2 (.t 15)⟩,
  ⟨some 17, none, .ld (.t 16)⟩,
  ⟨some 18, none, .mov (.t 2)⟩,
  ⟨some 19, none, .mov (.t 3)⟩,
  ⟨some 20, none, .call n_lines_Lines_Write [(.t 17), (.t 18), (.t 19)]⟩,
  ⟨some 10, none, .mov (.t 20)⟩])
  (.ret))
  (.seq (.ops [⟨some 22, none, .bin .eql (.t 11) (.c (.int .i64 1))⟩,
  ⟨some 21, none, .mov (.t 22)⟩])
  (.cond (.t 21)
  (c0_bus_Bus_write)
  (c4_bus_Bus_write)))
def c6_bus_Bus_write : C :=
 .seq (.ops [⟨some 61, none, .mov (.t 0)⟩,
  ⟨some 62, none, .nilc (.t 61)⟩,
  ⟨some 63, none, .fa 7 (.t 62)⟩,
  ⟨some 64, none, .ld (.t 63)⟩,
  ⟨some 65, none, .mov (.t 2)⟩,
  ⟨some 66, none, .mov (.t 3)⟩,
  ⟨some 67, none, .mov (.t 4)⟩,
  ⟨some 68, none, .call n_disk_Disk_Write [(.t 64), (.t 65), (.t 66), (.t 67)]⟩,
  ⟨some 10, none, .mov (.t 68)⟩])
  (.ret)
def c_bus_Bus_write : C :=
 .seq (.ops [⟨some 10, none, .mov (.c (.bool false))⟩])
  (.seq (.seq (.ops [⟨some 11, none, .mov (.t 1)⟩])
  (.block 0
  (.seq (.ops [⟨some 13, none, .bin .eql (.t 11) (.c (.int .i64 0))⟩,
  ⟨some 12, none, .mov (.t 13)⟩])
  (c5_bus_Bus_write))))
  (c6_bus_Bus_write))
def f_bus_Bus_write : F := ⟨c_bus_Bus_write, [.t 10], some []⟩
theorem h_bus_Bus_write : compF Try.prog (compAny Try.prog) n_bus_Bus_write = some (f_bus_Bus_write.body, f_bus_Bus_write.res) := by kernel_rfl
end Go.Proofs.Ytpdfdemoflofhaa.Cd
