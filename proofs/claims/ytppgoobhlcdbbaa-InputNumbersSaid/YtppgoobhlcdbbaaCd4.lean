/- The code of the functions that are reached, as the interpreter reads it. -/
import Derived.Test.YtppgoobhlcdbbaaCd3
set_option maxRecDepth 100000
set_option linter.defProp false
namespace Go.Proofs.Ytppgoobhlcdbbaa.Cd
open Go Go.Dx
/- (*pianola/pianolaref15.Bus).sector -/
def c0_pianolaref15_Bus_sector : C :=
 .seq (.ops [⟨some 56, none, .mov (.t 2)⟩,
  ⟨some 57, none, .mov (.t 2)⟩,
  ⟨some 58, none, .nilc (.t 57)⟩,
  ⟨some 59, none, .fa 3 (.t 58)⟩,
  ⟨some 60, none, .ld (.t 59)⟩,
  ⟨some 61, none, .bin .or (.t 60) (.c (.int .u32 4))⟩,
  ⟨some 62, none, .nilc (.t 56)⟩,
  ⟨some 63, none, .fa 3 (.t 62)⟩,
  ⟨none, none, .st (.t 63) (.t 61)⟩])
  (.ret)
def c1_pianolaref15_Bus_sector : C :=
 .seq (.any 0 [.op 0 ⟨some 75, none, .mov (.t 0)⟩,
  .op 1 ⟨some 76, none, .nilc (.t 75)⟩,
  .op 2 ⟨some 77, none, .fa 0 (.t 76)⟩,
  .op 3 ⟨some 78, none, .ld (.t 77)⟩,
  .op 4 ⟨some 79, none, .mov (.t 2)⟩,
  .op 5 ⟨some 80, none, .nilc (.t 79)⟩,
  .op 6 ⟨some 81, none, .fa 1 (.t 80)⟩,
  .op 7 ⟨some 82, none, .ld (.t 81)⟩,
  .op 8 ⟨some 83, none, .mov (.t 2)⟩,
  .op 9 ⟨some 84, none, .nilc (.t 83)⟩,
  .op 10 ⟨some 85, none, .fa 4 (.t 84)⟩,
  .op 11 ⟨some 86, none, .ld (.t 85)⟩,
  .op 12 ⟨some 87, none, .mov (.t 3)⟩,
  .op 13 ⟨some 88, none, .mov (.t 3)⟩,
  .op 14 ⟨some 89, none, .bin .add (.t 88) (.c (.int .i64 64))⟩,
  .op 15 ⟨some 90, none, .sl 1 (.t 86) (some (.t 87)) (some (.t 89)) none⟩,
  .op 16 ⟨some 91, none, .call n_pianolaref2_Ram_Put [(.t 78), (.t 82), (.t 90)]⟩])
  (.ret)
def c2_pianolaref15_Bus_sector : C :=
 .ops [⟨some 104, none, .mov (.t 2)⟩,
  ⟨some 105, none, .nilc (.t 104)⟩,
  ⟨some 106, none, .fa 4 (.t 105)⟩,
  ⟨some 107, none, .ld (.t 106)⟩,
  ⟨some 108, none, .mov (.t 3)⟩,
  ⟨some 109, none, .sl 1 (.t 107) (some (.t 108)) none none⟩,
  ⟨some 110, none, .mov (.t 4)⟩,
  ⟨some 111, none, .cpy 1 (.t 109) (.t 110)⟩]
def c3_pianolaref15_Bus_sector : C :=
 .seq (.any 0 [.op 0 ⟨some 93, none, .mov (.t 0)⟩,
  .op 1 ⟨some 94, none, .nilc (.t 93)⟩,
  .op 2 ⟨some 95, none, .fa 0 (.t 94)⟩,
  .op 3 ⟨some 96, none, .ld (.t 95)⟩,
  .op 4 ⟨some 97, none, .mov (.t 2)⟩,
  .op 5 ⟨some 98, none, .nilc (.t 97)⟩,
  .op 6 ⟨some 99, none, .fa 1 (.t 98)⟩,
  .op 7 ⟨some 100, none, .ld (.t 99)⟩,
  .op 8 ⟨some 101, none, .call n_pianolaref2_Ram_Bytes [(.t 96), (.t 100), (.c (.int .i64 64))]⟩,
  .op 9 ⟨some 92, none, .mov (.t 101)⟩,
  .op 10 ⟨some 102, none, .ext (.t 92) 0⟩,
  .op 11 ⟨some 103, none, .ext (.t 92) 1⟩,
  .op 12 ⟨some 4, none, .mov (.t 102)⟩,
  .op 13 ⟨some 5, none, .mov (.t 103)⟩])
  (c2_pianolaref15_Bus_sector)
def c4_pianolaref15_Bus_sector : C :=
 .seq (.ops [⟨some 64, none, .mov (.t 2)⟩,
  ⟨some 65, none, .nilc (.t 64)⟩,
  ⟨some 66, none, .fa 0 (.t 65)⟩,
  ⟨some 67, none, .ld (.t 66)⟩,
  ⟨some 68, none, .conv .i64 (.t 67)⟩,
  ⟨some 69, none, .bin .mul (.t 68) (.c (.int .i64 64))⟩,
  ⟨some 3, none, .mov (.t 69)⟩])
  (.seq (.seq (.ops [⟨some 70, none, .mov (.t 2)⟩,
  ⟨some 71, none, .nilc (.t 70)⟩,
  ⟨some 72, none, .fa 2 (.t 71)⟩,
  ⟨some 73, none, .ld (.t 72)⟩,
  ⟨some 74, none, .bin .eql (.t 73) (.c (.int .u32 1))⟩])
  (.cond (.t 74)
  (c1_pianolaref15_Bus_sector)
  (.skip)))
  (c3_pianolaref15_Bus_sector))
def c5_pianolaref15_Bus_sector : C :=
 .seq (.seq (.any 0 [.op 0 ⟨some 18, none, .mov (.t 2)⟩,
  .op 1 ⟨some 19, none, .nilc (.t 18)⟩,
  .op 2 ⟨some 20, none, .fa 0 (.t 19)⟩,
  .op 3 ⟨some 21, none, .ld (.t 20)⟩,
  .op 4 ⟨some 22, none, .mov (.t 2)⟩,
  .op 5 ⟨some 23, none, .nilc (.t 22)⟩,
  .op 6 ⟨some 24, none, .fa 4 (.t 23)⟩,
  .op 7 ⟨some 25, none, .ld (.t 24)⟩,
  .op 8 ⟨some 26, none, .len 1 (.t 25)⟩,
  .op 9 ⟨some 27, none, .bin .quo (.t 26) (.c (.int .i64 64))⟩,
  .op 10 ⟨some 28, none, .conv .u32 (.t 27)⟩,
  .op 11 ⟨some 29, none, .bin .geq (.t 21) (.t 28)⟩,
  .op 12 ⟨some 30, none, .mov (.t 29)⟩,
  .op 13 ⟨some 31, some (30, false), .mov (.t 2)⟩,
  .op 14 ⟨some 32, some (30, false), .nilc (.t 31)⟩,
  .op 15 ⟨some 33, some (30, false), .fa 2 (.t 32)⟩,
  .op 16 ⟨some 34, some (30, false), .ld (.t 33)⟩,
  .op 17 ⟨some 35, some (30, false), .bin .neq (.t 34) (.c (.int .u32 1))⟩,
  .op 18 ⟨some 36, some (30, false), .mov (.t 35)⟩,
  .op 19 ⟨some 37, some (36, true), .mov (.t 2)⟩,
  .op 20 ⟨some 38, some (36, true), .nilc (.t 37)⟩,
  .op 21 ⟨some 39, some (36, true), .fa 2 (.t 38)⟩,
  .op 22 ⟨some 40, some (36, true), .ld (.t 39)⟩,
  .op 23 ⟨some 41, some (36, true), .bin .neq (.t 40) (.c (.int .u32 2))⟩,
  .op 24 ⟨some 42, some (30, false), .pick (.t 36) (.t 41) (.c (.bool false))⟩,
  .op 25 ⟨some 43, none, .pick (.t 30) (.c (.bool true)) (.t 42)⟩,
  .op 26 ⟨some 44, none, .mov (.t 43)⟩,
  .op 27 ⟨some 45, some (44, false), .mov (.t 0)⟩,
  .op 28 ⟨some 46, some (44, false), .nilc (.t 45)⟩,
  .op 29 ⟨some 47, some (44, false), .fa 0 (.t 46)⟩,
  .op 30 ⟨some 48, some (44, false), .ld (.t 47)⟩,
  .op 31 ⟨some 49, some (44, false), .mov (.t 2)⟩,
  .op 32 ⟨some 50, some (44, false), .nilc (.t 49)⟩,
  .op 33 ⟨some 51, some (44, false), .fa 1 (.t 50)⟩,
  .op 34 ⟨some 52, some (44, false), .ld (.t 51)⟩,
  .op 35 ⟨some 53, some (44, false), .call n_pianolaref2_Ram_In [(.t 48), (.t 52), (.c (.int .i64 64))]⟩,
  .op 36 ⟨some 54, some (44, false), .un .not (.t 53)⟩,
  .op 37 ⟨some 55, none, .pick (.t 44) (.c (.bool true)) (.t 54)⟩])
  (.cond (.t 55)
  (c0_pianolaref15_Bus_sector)
  (.skip)))
  (c4_pianolaref15_Bus_sector)
def c6_pianolaref15_Bus_sector : C :=
 .seq (.ops [⟨some 9, none, .mov (.t 2)⟩,
  ⟨some 10, none, .mov (.t 2)⟩,
  ⟨some 11, none, .nilc (.t 10)⟩,
  ⟨some 12, none, .fa 3 (.t 11)⟩,
  ⟨some 13, none, .ld (.t 12)⟩,
  ⟨some 14, none, .bin .andNot (.t 13) (.c (.int .u32 1))⟩,
  ⟨some 15, none, .bin .or (.t 14) (.c (.int .u32 2))⟩,
  ⟨some 16, none, .nilc (.t 9)⟩,
  ⟨some 17, none, .fa 3 (.t 16)⟩,
  ⟨none, none, .st (.t 17) (.t 15)⟩])
  (c5_pianolaref15_Bus_sector)
def c_pianolaref15_Bus_sector : C :=
 .seq (.ops [⟨some 6, none, .mov (.t 0)⟩,
  ⟨some 7, none, .nilc (.t 6)⟩,
  ⟨some 8, none, .fa 18 (.t 7)⟩,
  ⟨some 2, none, .mov (.t 8)⟩])
  (c6_pianolaref15_Bus_sector)
def f_pianolaref15_Bus_sector : F := ⟨c_pianolaref15_Bus_sector, [], some []⟩
theorem h_pianolaref15_Bus_sector : compF Try.prog (compAny Try.prog) n_pianolaref15_Bus_sector = some (f_pianolaref15_Bus_sector.body, f_pianolaref15_Bus_sector.res) := by kernel_rfl
/- (*pianola/pianolaref15.Bus).timer -/
def c0_pianolaref15_Bus_timer : C :=
 .any 0 [.op 5 ⟨some 34, none, .mov (.t 11)⟩,
  .op 6 ⟨some 35, none, .nilc (.t 34)⟩,
  .op 7 ⟨some 36, none, .fa 1 (.t 35)⟩,
  .op 8 ⟨some 37, none, .ld (.t 36)⟩,
  .op 0 ⟨some 29, none, .mov (.t 0)⟩,
  .op 1 ⟨some 30, none, .nilc (.t 29)⟩,
  .op 2 ⟨some 31, none, .fa 1 (.t 30)⟩,
  .op 3 ⟨some 32, none, .mov (.t 1)⟩,
  .op 4 ⟨some 33, none, .mov (.t 4)⟩,
  .op 9 ⟨some 38, none, .conv .i64 (.t 37)⟩,
  .op 10 ⟨some 39, none, .mx (.t 38) (.c (.int .i64 1))⟩,
  .op 11 ⟨some 40, none, .bin .add (.t 33) (.t 39)⟩,
  .op 12 ⟨some 41, none, .call n_pianolaref9_Wheel_Arm [(.t 31), (.t 32), (.t 40)]⟩]
def c1_pianolaref15_Bus_timer : C :=
 .seq (.ops [⟨some 26, none, .mov (.t 3)⟩,
  ⟨some 27, none, .bin .and (.t 26) (.c (.int .u32 1))⟩,
  ⟨some 28, none, .bin .neq (.t 27) (.c (.int .u32 0))⟩])
  (.cond (.t 28)
  (c0_pianolaref15_Bus_timer)
  (.ops [⟨some 42, none, .mov (.t 0)⟩,
  ⟨some 43, none, .nilc (.t 42)⟩,
  ⟨some 44, none, .fa 1 (.t 43)⟩,
  ⟨some 45, none, .mov (.t 1)⟩,
  ⟨some 46, none, .call n_pianolaref9_Wheel_Cancel [(.t 44), (.t 45)]⟩]))
def c2_pianolaref15_Bus_timer : C :=
 .seq (.ops [⟨some 55, none, .mov (.t 3)⟩,
  ⟨some 56, none, .bin .and (.t 55) (.c (.int .u32 1))⟩,
  ⟨some 57, none, .bin .neq (.t 56) (.c (.int .u32 0))⟩])
  (.cond (.t 57)
  (.ops [⟨some 58, none, .mov (.t 11)⟩,
  ⟨some 59, none, .nilc (.t 58)⟩,
  ⟨some 60, none, .fa 2 (.t 59)⟩,
  ⟨none, none, .st (.t 60) (.c (.int .u32 0))⟩])
  (.skip))
def c3_pianolaref15_Bus_timer : C :=
 .cond (.t 47)
  (.ops [⟨some 49, none, .mov (.t 11)⟩,
  ⟨some 50, none, .mov (.t 3)⟩,
  ⟨some 51, none, .nilc (.t 49)⟩,
  ⟨some 52, none, .fa 1 (.t 51)⟩,
  ⟨none, none, .st (.t 52) (.t 50)⟩])
  (.seq (.ops [⟨some 54, none, .bin .eql (.t 18) (.c (.int .u32 2))⟩,
  ⟨some 53, none, .mov (.t 54)⟩])
  (.cond (.t 53)
  (c2_pianolaref15_Bus_timer)
  (.skip)))
def c4_pianolaref15_Bus_timer : C :=
 .cond (.t 19)
  (.seq (.ops [⟨some 21, none, .mov (.t 11)⟩,
  ⟨some 22, none, .mov (.t 3)⟩,
  ⟨some 23, none, .bin .and (.t 22) (.c (.int .u32 3))⟩,
  ⟨some 24, none, .nilc (.t 21)⟩,
  ⟨some 25, none, .fa 0 (.t 24)⟩,
  ⟨none, none, .st (.t 25) (.t 23)⟩])
  (c1_pianolaref15_Bus_timer))
  (.seq (.ops [⟨some 48, none, .bin .eql (.t 18) (.c (.int .u32 1))⟩,
  ⟨some 47, none, .mov (.t 48)⟩])
  (c3_pianolaref15_Bus_timer))
def c5_pianolaref15_Bus_timer : C :=
 .seq (.seq (.ops [⟨some 18, none, .mov (.t 2)⟩])
  (.block 0
  (.seq (.ops [⟨some 20, none, .bin .eql (.t 18) (.c (.int .u32 0))⟩,
  ⟨some 19, none, .mov (.t 20)⟩])
  (c4_pianolaref15_Bus_timer))))
  (.seq (.ops [⟨some 61, none, .mov (.t 2)⟩,
  ⟨some 62, none, .bin .lss (.t 61) (.c (.int .u32 3))⟩,
  ⟨some 10, none, .mov (.t 62)⟩])
  (.ret))
def c_pianolaref15_Bus_timer : C :=
 .seq (.ops [⟨some 10, none, .mov (.c (.bool false))⟩])
  (.seq (.ops [⟨some 12, none, .mov (.t 0)⟩,
  ⟨some 13, none, .mov (.t 1)⟩,
  ⟨some 14, none, .bin .sub (.t 13) (.c (.int .i64 1))⟩,
  ⟨some 15, none, .nilc (.t 12)⟩,
  ⟨some 16, none, .fa 3 (.t 15)⟩,
  ⟨some 17, none, .iaa 2 3 (.t 16) (.t 14)⟩,
  ⟨some 11, none, .mov (.t 17)⟩])
  (c5_pianolaref15_Bus_timer))
def f_pianolaref15_Bus_timer : F := ⟨c_pianolaref15_Bus_timer, [.t 10], some []⟩
theorem h_pianolaref15_Bus_timer : compF Try.prog (compAny Try.prog) n_pianolaref15_Bus_timer = some (f_pianolaref15_Bus_timer.body, f_pianolaref15_Bus_timer.res) := by kernel_rfl
/- (*pianola/pianolaref15.Bus).uart -/
def c0_pianolaref15_Bus_uart : C :=
 .ops [⟨some 34, none, .mov (.t 9)⟩,
  ⟨some 35, none, .bsl 0 [] []⟩,
  ⟨some 36, none, .mov (.t 9)⟩,
  ⟨some 37, none, .nilc (.t 36)⟩,
  ⟨some 38, none, .fa 1 (.t 37)⟩,
  ⟨some 39, none, .ld (.t 38)⟩,
  ⟨some 40, none, .app 1 1 (.t 35) (.t 39)⟩,
  ⟨some 41, none, .mov (.t 2)⟩,
  ⟨some 42, none, .conv .u8 (.t 41)⟩,
  ⟨some 43, none, .bsl 1 [(.int .u8 0)] [(0, 1, (.t 42))]⟩,
  ⟨some 44, none, .app 1 1 (.t 40) (.t 43)⟩,
  ⟨some 45, none, .nilc (.t 34)⟩,
  ⟨some 46, none, .fa 1 (.t 45)⟩,
  ⟨none, none, .st (.t 46) (.t 44)⟩]
def c1_pianolaref15_Bus_uart : C :=
 .seq (.seq (.ops [⟨some 22, none, .mov (.t 9)⟩,
  ⟨some 23, none, .nilc (.t 22)⟩,
  ⟨some 24, none, .fa 1 (.t 23)⟩,
  ⟨some 25, none, .ld (.t 24)⟩,
  ⟨some 26, none, .len 1 (.t 25)⟩,
  ⟨some 27, none, .bin .eql (.t 26) (.c (.int .i64 0))⟩])
  (.cond (.t 27)
  (.ops [⟨some 28, none, .mov (.t 0)⟩,
  ⟨some 29, none, .nilc (.t 28)⟩,
  ⟨some 30, none, .fa 1 (.t 29)⟩,
  ⟨some 31, none, .mov (.t 3)⟩,
  ⟨some 32, none, .bin .add (.t 31) (.c (.int .i64 8))⟩,
  ⟨some 33, none, .call n_pianolaref9_Wheel_Arm [(.t 30), (.c (.int .i64 3)), (.t 32)]⟩])
  (.skip)))
  (c0_pianolaref15_Bus_uart)
def c2_pianolaref15_Bus_uart : C :=
 .seq (.ops [⟨some 49, none, .mov (.t 2)⟩,
  ⟨some 50, none, .bin .and (.t 49) (.c (.int .u32 4))⟩,
  ⟨some 51, none, .bin .neq (.t 50) (.c (.int .u32 0))⟩])
  (.cond (.t 51)
  (.ops [⟨some 52, none, .mov (.t 9)⟩,
  ⟨some 53, none, .nilc (.t 52)⟩,
  ⟨some 54, none, .fa 2 (.t 53)⟩,
  ⟨none, none, .st (.t 54) (.c (.bool false))⟩])
  (.skip))
def c3_pianolaref15_Bus_uart : C :=
 .seq (.ops [⟨some 56, none, .bin .eql (.t 13) (.c (.int .u32 2))⟩,
  ⟨some 55, none, .mov (.t 56)⟩])
  (.cond (.t 55)
  (.ops [⟨some 57, none, .mov (.t 9)⟩,
  ⟨some 58, none, .mov (.t 2)⟩,
  ⟨some 59, none, .bin .and (.t 58) (.c (.int .u32 3))⟩,
  ⟨some 60, none, .nilc (.t 57)⟩,
  ⟨some 61, none, .fa 3 (.t 60)⟩,
  ⟨none, none, .st (.t 61) (.t 59)⟩])
  (.skip))
def c4_pianolaref15_Bus_uart : C :=
 .cond (.t 14)
  (.seq (.ops [⟨some 16, none, .mov (.t 9)⟩,
  ⟨some 17, none, .nilc (.t 16)⟩,
  ⟨some 18, none, .fa 1 (.t 17)⟩,
  ⟨some 19, none, .ld (.t 18)⟩,
  ⟨some 20, none, .len 1 (.t 19)⟩,
  ⟨some 21, none, .bin .lss (.t 20) (.c (.int .i64 16))⟩])
  (.cond (.t 21)
  (c1_pianolaref15_Bus_uart)
  (.skip)))
  (.seq (.ops [⟨some 48, none, .bin .eql (.t 13) (.c (.int .u32 1))⟩,
  ⟨some 47, none, .mov (.t 48)⟩])
  (.cond (.t 47)
  (c2_pianolaref15_Bus_uart)
  (c3_pianolaref15_Bus_uart)))
def c5_pianolaref15_Bus_uart : C :=
 .seq (.seq (.ops [⟨some 13, none, .mov (.t 1)⟩])
  (.block 0
  (.seq (.ops [⟨some 15, none, .bin .eql (.t 13) (.c (.int .u32 0))⟩,
  ⟨some 14, none, .mov (.t 15)⟩])
  (c4_pianolaref15_Bus_uart))))
  (.seq (.ops [⟨some 62, none, .mov (.t 1)⟩,
  ⟨some 63, none, .bin .lss (.t 62) (.c (.int .u32 3))⟩,
  ⟨some 8, none, .mov (.t 63)⟩])
  (.ret))
def c_pianolaref15_Bus_uart : C :=
 .seq (.ops [⟨some 8, none, .mov (.c (.bool false))⟩])
  (.seq (.ops [⟨some 10, none, .mov (.t 0)⟩,
  ⟨some 11, none, .nilc (.t 10)⟩,
  ⟨some 12, none, .fa 9 (.t 11)⟩,
  ⟨some 9, none, .mov (.t 12)⟩])
  (c5_pianolaref15_Bus_uart))
def f_pianolaref15_Bus_uart : F := ⟨c_pianolaref15_Bus_uart, [.t 8], some []⟩
theorem h_pianolaref15_Bus_uart : compF Try.prog (compAny Try.prog) n_pianolaref15_Bus_uart = some (f_pianolaref15_Bus_uart.body, f_pianolaref15_Bus_uart.res) := by kernel_rfl
/- (*pianola/pianolaref15.Bus).dma -/
def c0_pianolaref15_Bus_dma : C :=
 .any 0 [.op 4 ⟨some 57, none, .mov (.t 9)⟩,
  .op 5 ⟨some 58, none, .nilc (.t 57)⟩,
  .op 6 ⟨some 59, none, .fa 2 (.t 58)⟩,
  .op 7 ⟨some 60, none, .ld (.t 59)⟩,
  .op 0 ⟨some 53, none, .mov (.t 0)⟩,
  .op 1 ⟨some 54, none, .nilc (.t 53)⟩,
  .op 2 ⟨some 55, none, .fa 1 (.t 54)⟩,
  .op 3 ⟨some 56, none, .mov (.t 3)⟩,
  .op 8 ⟨some 61, none, .mn (.t 60) (.c (.int .u32 4096))⟩,
  .op 9 ⟨some 62, none, .conv .i64 (.t 61)⟩,
  .op 10 ⟨some 63, none, .bin .quo (.t 62) (.c (.int .i64 4))⟩,
  .op 11 ⟨some 64, none, .bin .add (.t 56) (.t 63)⟩,
  .op 12 ⟨some 65, none, .bin .add (.t 64) (.c (.int .i64 1))⟩,
  .op 13 ⟨some 66, none, .call n_pianolaref9_Wheel_Arm [(.t 55), (.c (.int .i64 4)), (.t 65)]⟩]
def c1_pianolaref15_Bus_dma : C :=
 .seq (.ops [⟨some 45, none, .mov (.t 9)⟩,
  ⟨some 46, none, .mov (.t 9)⟩,
  ⟨some 47, none, .nilc (.t 46)⟩,
  ⟨some 48, none, .fa 3 (.t 47)⟩,
  ⟨some 49, none, .ld (.t 48)⟩,
  ⟨some 50, none, .bin .or (.t 49) (.c (.int .u32 1))⟩,
  ⟨some 51, none, .nilc (.t 45)⟩,
  ⟨some 52, none, .fa 3 (.t 51)⟩,
  ⟨none, none, .st (.t 52) (.t 50)⟩])
  (c0_pianolaref15_Bus_dma)
def c2_pianolaref15_Bus_dma : C :=
 .seq (.ops [⟨some 34, none, .mov (.t 2)⟩,
  ⟨some 35, none, .bin .and (.t 34) (.c (.int .u32 1))⟩,
  ⟨some 36, none, .bin .neq (.t 35) (.c (.int .u32 0))⟩,
  ⟨some 37, none, .mov (.t 36)⟩,
  ⟨some 38, some (37, true), .mov (.t 9)⟩,
  ⟨some 39, some (37, true), .nilc (.t 38)⟩,
  ⟨some 40, some (37, true), .fa 3 (.t 39)⟩,
  ⟨some 41, some (37, true), .ld (.t 40)⟩,
  ⟨some 42, some (37, true), .bin .and (.t 41) (.c (.int .u32 1))⟩,
  ⟨some 43, some (37, true), .bin .eql (.t 42) (.c (.int .u32 0))⟩,
  ⟨some 44, none, .pick (.t 37) (.t 43) (.c (.bool false))⟩])
  (.cond (.t 44)
  (c1_pianolaref15_Bus_dma)
  (.skip))
def c3_pianolaref15_Bus_dma : C :=
 .ops [⟨some 69, none, .mov (.t 9)⟩,
  ⟨some 70, none, .mov (.t 9)⟩,
  ⟨some 71, none, .nilc (.t 70)⟩,
  ⟨some 72, none, .fa 3 (.t 71)⟩,
  ⟨some 73, none, .ld (.t 72)⟩,
  ⟨some 74, none, .mov (.t 2)⟩,
  ⟨some 75, none, .bin .and (.t 74) (.c (.int .u32 6))⟩,
  ⟨some 76, none, .bin .andNot (.t 73) (.t 75)⟩,
  ⟨some 77, none, .nilc (.t 69)⟩,
  ⟨some 78, none, .fa 3 (.t 77)⟩,
  ⟨none, none, .st (.t 78) (.t 76)⟩]
def c4_pianolaref15_Bus_dma : C :=
 .cond (.t 26)
  (.ops [⟨some 28, none, .mov (.t 9)⟩,
  ⟨some 29, none, .mov (.t 2)⟩,
  ⟨some 30, none, .nilc (.t 28)⟩,
  ⟨some 31, none, .fa 2 (.t 30)⟩,
  ⟨none, none, .st (.t 31) (.t 29)⟩])
  (.seq (.ops [⟨some 33, none, .bin .eql (.t 13) (.c (.int .u32 3))⟩,
  ⟨some 32, none, .mov (.t 33)⟩])
  (.cond (.t 32)
  (c2_pianolaref15_Bus_dma)
  (.seq (.ops [⟨some 68, none, .bin .eql (.t 13) (.c (.int .u32 4))⟩,
  ⟨some 67, none, .mov (.t 68)⟩])
  (.cond (.t 67)
  (c3_pianolaref15_Bus_dma)
  (.skip)))))
def c5_pianolaref15_Bus_dma : C :=
 .seq (.ops [⟨some 21, none, .bin .eql (.t 13) (.c (.int .u32 1))⟩,
  ⟨some 20, none, .mov (.t 21)⟩])
  (.cond (.t 20)
  (.ops [⟨some 22, none, .mov (.t 9)⟩,
  ⟨some 23, none, .mov (.t 2)⟩,
  ⟨some 24, none, .nilc (.t 22)⟩,
  ⟨some 25, none, .fa 1 (.t 24)⟩,
  ⟨none, none, .st (.t 25) (.t 23)⟩])
  (.seq (.ops [⟨some 27, none, .bin .eql (.t 13) (.c (.int .u32 2))⟩,
  ⟨some 26, none, .mov (.t 27)⟩])
  (c4_pianolaref15_Bus_dma)))
def c6_pianolaref15_Bus_dma : C :=
 .block 0
  (.seq (.ops [⟨some 15, none, .bin .eql (.t 13) (.c (.int .u32 0))⟩,
  ⟨some 14, none, .mov (.t 15)⟩])
  (.cond (.t 14)
  (.ops [⟨some 16, none, .mov (.t 9)⟩,
  ⟨some 17, none, .mov (.t 2)⟩,
  ⟨some 18, none, .nilc (.t 16)⟩,
  ⟨some 19, none, .fa 0 (.t 18)⟩,
  ⟨none, none, .st (.t 19) (.t 17)⟩])
  (c5_pianolaref15_Bus_dma)))
def c7_pianolaref15_Bus_dma : C :=
 .seq (.ops [⟨some 10, none, .mov (.t 0)⟩,
  ⟨some 11, none, .nilc (.t 10)⟩,
  ⟨some 12, none, .fa 14 (.t 11)⟩,
  ⟨some 9, none, .mov (.t 12)⟩])
  (.seq (.seq (.ops [⟨some 13, none, .mov (.t 1)⟩])
  (c6_pianolaref15_Bus_dma))
  (.seq (.ops [⟨some 79, none, .mov (.t 1)⟩,
  ⟨some 80, none, .bin .lss (.t 79) (.c (.int .u32 5))⟩,
  ⟨some 8, none, .mov (.t 80)⟩])
  (.ret)))
def c_pianolaref15_Bus_dma : C :=
 .seq (.ops [⟨some 8, none, .mov (.c (.bool false))⟩])
  (c7_pianolaref15_Bus_dma)
def f_pianolaref15_Bus_dma : F := ⟨c_pianolaref15_Bus_dma, [.t 8], some []⟩
theorem h_pianolaref15_Bus_dma : compF Try.prog (compAny Try.prog) n_pianolaref15_Bus_dma = some (f_pianolaref15_Bus_dma.body, f_pianolaref15_Bus_dma.res) := by kernel_rfl
/- (*pianola/pianolaref15.Bus).disk -/
def c0_pianolaref15_Bus_disk : C :=
 .seq (.ops [⟨some 38, none, .mov (.t 9)⟩,
  ⟨some 39, none, .mov (.t 9)⟩,
  ⟨some 40, none, .nilc (.t 39)⟩,
  ⟨some 41, none, .fa 3 (.t 40)⟩,
  ⟨some 42, none, .ld (.t 41)⟩,
  ⟨some 43, none, .bin .or (.t 42) (.c (.int .u32 1))⟩,
  ⟨some 44, none, .nilc (.t 38)⟩,
  ⟨some 45, none, .fa 3 (.t 44)⟩,
  ⟨none, none, .st (.t 45) (.t 43)⟩])
  (.ops [⟨some 46, none, .mov (.t 0)⟩,
  ⟨some 47, none, .nilc (.t 46)⟩,
  ⟨some 48, none, .fa 1 (.t 47)⟩,
  ⟨some 49, none, .mov (.t 3)⟩,
  ⟨some 50, none, .bin .add (.t 49) (.c (.int .i64 32))⟩,
  ⟨some 51, none, .call n_pianolaref9_Wheel_Arm [(.t 48), (.c (.int .i64 5)), (.t 50)]⟩])
def c1_pianolaref15_Bus_disk : C :=
 .seq (.ops [⟨some 28, none, .mov (.t 9)⟩,
  ⟨some 29, none, .nilc (.t 28)⟩,
  ⟨some 30, none, .fa 3 (.t 29)⟩,
  ⟨some 31, none, .ld (.t 30)⟩,
  ⟨some 32, none, .bin .and (.t 31) (.c (.int .u32 1))⟩,
  ⟨some 33, none, .bin .eql (.t 32) (.c (.int .u32 0))⟩])
  (.cond (.t 33)
  (.seq (.ops [⟨some 34, none, .mov (.t 9)⟩,
  ⟨some 35, none, .mov (.t 2)⟩,
  ⟨some 36, none, .nilc (.t 34)⟩,
  ⟨some 37, none, .fa 2 (.t 36)⟩,
  ⟨none, none, .st (.t 37) (.t 35)⟩])
  (c0_pianolaref15_Bus_disk))
  (.skip))
def c2_pianolaref15_Bus_disk : C :=
 .ops [⟨some 54, none, .mov (.t 9)⟩,
  ⟨some 55, none, .mov (.t 9)⟩,
  ⟨some 56, none, .nilc (.t 55)⟩,
  ⟨some 57, none, .fa 3 (.t 56)⟩,
  ⟨some 58, none, .ld (.t 57)⟩,
  ⟨some 59, none, .mov (.t 2)⟩,
  ⟨some 60, none, .bin .and (.t 59) (.c (.int .u32 6))⟩,
  ⟨some 61, none, .bin .andNot (.t 58) (.t 60)⟩,
  ⟨some 62, none, .nilc (.t 54)⟩,
  ⟨some 63, none, .fa 3 (.t 62)⟩,
  ⟨none, none, .st (.t 63) (.t 61)⟩]
def c3_pianolaref15_Bus_disk : C :=
 .cond (.t 20)
  (.ops [⟨some 22, none, .mov (.t 9)⟩,
  ⟨some 23, none, .mov (.t 2)⟩,
  ⟨some 24, none, .nilc (.t 22)⟩,
  ⟨some 25, none, .fa 1 (.t 24)⟩,
  ⟨none, none, .st (.t 25) (.t 23)⟩])
  (.seq (.ops [⟨some 27, none, .bin .eql (.t 13) (.c (.int .u32 2))⟩,
  ⟨some 26, none, .mov (.t 27)⟩])
  (.cond (.t 26)
  (c1_pianolaref15_Bus_disk)
  (.seq (.ops [⟨some 53, none, .bin .eql (.t 13) (.c (.int .u32 3))⟩,
  ⟨some 52, none, .mov (.t 53)⟩])
  (.cond (.t 52)
  (c2_pianolaref15_Bus_disk)
  (.skip)))))
def c4_pianolaref15_Bus_disk : C :=
 .block 0
  (.seq (.ops [⟨some 15, none, .bin .eql (.t 13) (.c (.int .u32 0))⟩,
  ⟨some 14, none, .mov (.t 15)⟩])
  (.cond (.t 14)
  (.ops [⟨some 16, none, .mov (.t 9)⟩,
  ⟨some 17, none, .mov (.t 2)⟩,
  ⟨some 18, none, .nilc (.t 16)⟩,
  ⟨some 19, none, .fa 0 (.t 18)⟩,
  ⟨none, none, .st (.t 19) (.t 17)⟩])
  (.seq (.ops [⟨some 21, none, .bin .eql (.t 13) (.c (.int .u32 1))⟩,
  ⟨some 20, none, .mov (.t 21)⟩])
  (c3_pianolaref15_Bus_disk))))
def c5_pianolaref15_Bus_disk : C :=
 .seq (.ops [⟨some 10, none, .mov (.t 0)⟩,
  ⟨some 11, none, .nilc (.t 10)⟩,
  ⟨some 12, none, .fa 18 (.t 11)⟩,
  ⟨some 9, none, .mov (.t 12)⟩])
  (.seq (.seq (.ops [⟨some 13, none, .mov (.t 1)⟩])
  (c4_pianolaref15_Bus_disk))
  (.seq (.ops [⟨some 64, none, .mov (.t 1)⟩,
  ⟨some 65, none, .bin .lss (.t 64) (.c (.int .u32 4))⟩,
  ⟨some 8, none, .mov (.t 65)⟩])
  (.ret)))
def c_pianolaref15_Bus_disk : C :=
 .seq (.ops [⟨some 8, none, .mov (.c (.bool false))⟩])
  (c5_pianolaref15_Bus_disk)
def f_pianolaref15_Bus_disk : F := ⟨c_pianolaref15_Bus_disk, [.t 8], some []⟩
theorem h_pianolaref15_Bus_disk : compF Try.prog (compAny Try.prog) n_pianolaref15_Bus_disk = some (f_pianolaref15_Bus_disk.body, f_pianolaref15_Bus_disk.res) := by kernel_rfl
/- slices.insertionSortCmpFunc[pianola/input.Key] -/
def c0_slices_insertionSortCmpFunc_input_Key : C :=
 .seq (.block 3
  (.any 0 [.op 5 ⟨some 42, none, .mov (.t 0)⟩,
  .op 6 ⟨some 43, none, .mov (.t 9)⟩,
  .op 7 ⟨some 44, none, .bin .sub (.t 43) (.c (.int .i64 1))⟩,
  .op 8 ⟨some 45, none, .ia 2 (.t 42) (.t 44)⟩,
  .op 9 ⟨some 46, none, .ldn 2 (.t 45)⟩,
  .op 10 ⟨some 47, none, .mov (.t 0)⟩,
  .op 11 ⟨some 48, none, .mov (.t 9)⟩,
  .op 12 ⟨some 49, none, .ia 2 (.t 47) (.t 48)⟩,
  .op 13 ⟨some 50, none, .ldn 2 (.t 49)⟩,
  .op 0 ⟨some 37, none, .mov (.t 0)⟩,
  .op 1 ⟨some 38, none, .mov (.t 9)⟩,
  .op 14 ⟨some 51, none, .ia 2 (.t 37) (.t 38)⟩,
  .op 15 ⟨none, none, .stn 2 (.t 51) (.t 46)⟩,
  .op 2 ⟨some 39, none, .mov (.t 0)⟩,
  .op 3 ⟨some 40, none, .mov (.t 9)⟩,
  .op 4 ⟨some 41, none, .bin .sub (.t 40) (.c (.int .i64 1))⟩,
  .op 16 ⟨some 52, none, .ia 2 (.t 39) (.t 41)⟩,
  .op 17 ⟨none, none, .stn 2 (.t 52) (.t 50)⟩]))
  (.ops [⟨some 35, none, .mov (.t 9)⟩,
  ⟨some 36, none, .bin .sub (.t 35) (.c (.int .i64 1))⟩,
  ⟨some 9, none, .mov (.t 36)⟩])
def c1_slices_insertionSortCmpFunc_input_Key : C :=
 .seq (.seq (.any 0 [.op 0 ⟨some 18, none, .mov (.t 9)⟩,
  .op 1 ⟨some 19, none, .mov (.t 1)⟩,
  .op 2 ⟨some 20, none, .bin .gtr (.t 18) (.t 19)⟩,
  .op 3 ⟨some 21, none, .mov (.t 20)⟩,
  .op 5 ⟨some 23, some (21, true), .mov (.t 0)⟩,
  .op 6 ⟨some 24, some (21, true), .mov (.t 9)⟩,
  .op 7 ⟨some 25, some (21, true), .ia 2 (.t 23) (.t 24)⟩,
  .op 8 ⟨some 26, some (21, true), .ldn 2 (.t 25)⟩,
  .op 9 ⟨some 27, some (21, true), .mov (.t 0)⟩,
  .op 10 ⟨some 28, some (21, true), .mov (.t 9)⟩,
  .op 11 ⟨some 29, some (21, true), .bin .sub (.t 28) (.c (.int .i64 1))⟩,
  .op 12 ⟨some 30, some (21, true), .ia 2 (.t 27) (.t 29)⟩,
  .op 13 ⟨some 31, some (21, true), .ldn 2 (.t 30)⟩,
  .op 4 ⟨some 22, some (21, true), .mov (.t 3)⟩,
  .op 14 ⟨some 32, some (21, true), .callv (.t 22) [(.t 26), (.t 31)]⟩,
  .op 15 ⟨some 33, some (21, true), .bin .lss (.t 32) (.c (.int .i64 0))⟩,
  .op 16 ⟨some 34, none, .pick (.t 21) (.t 33) (.c (.bool false))⟩])
  (.cond (.t 34)
  (.skip)
  (.exit 2)))
  (c0_slices_insertionSortCmpFunc_input_Key)
def c2_slices_insertionSortCmpFunc_input_Key : C :=
 .seq (.seq (.ops [⟨some 12, none, .mov (.t 8)⟩,
  ⟨some 13, none, .mov (.t 2)⟩,
  ⟨some 14, none, .bin .lss (.t 12) (.t 13)⟩])
  (.cond (.t 14)
  (.skip)
  (.exit 0)))
  (.seq (.block 1
  (.seq (.ops [⟨some 17, none, .mov (.t 8)⟩,
  ⟨some 9, none, .mov (.t 17)⟩])
  (.block 2
  (.loop c1_slices_insertionSortCmpFunc_input_Key))))
  (.ops [⟨some 15, none, .mov (.t 8)⟩,
  ⟨some 16, none, .bin .add (.t 15) (.c (.int .i64 1))⟩,
  ⟨some 8, none, .mov (.t 16)⟩]))
def c_slices_insertionSortCmpFunc_input_Key : C :=
 .seq (.ops [⟨some 10, none, .mov (.t 1)⟩,
  ⟨some 11, none, .bin .add (.t 10) (.c (.int .i64 1))⟩,
  ⟨some 8, none, .mov (.t 11)⟩])
  (.block 0
  (.loop c2_slices_insertionSortCmpFunc_input_Key))
def f_slices_insertionSortCmpFunc_input_Key : F := ⟨c_slices_insertionSortCmpFunc_input_Key, [], some []⟩
theorem h_slices_insertionSortCmpFunc_input_Key : compF Try.prog (compAny Try.prog) n_slices_insertionSortCmpFunc_input_Key = some (f_slices_insertionSortCmpFunc_input_Key.body, f_slices_insertionSortCmpFunc_input_Key.res) := by kernel_rfl
/- slices.symMergeCmpFunc[pianola/input.Key] -/
def c0_slices_symMergeCmpFunc_input_Key : C :=
 .seq (.any 0 [.op 1 ⟨some 41, none, .mov (.t 0)⟩,
  .op 2 ⟨some 42, none, .mov (.t 12)⟩,
  .op 3 ⟨some 43, none, .ia 2 (.t 41) (.t 42)⟩,
  .op 4 ⟨some 44, none, .ldn 2 (.t 43)⟩,
  .op 5 ⟨some 45, none, .mov (.t 0)⟩,
  .op 6 ⟨some 46, none, .mov (.t 1)⟩,
  .op 7 ⟨some 47, none, .ia 2 (.t 45) (.t 46)⟩,
  .op 8 ⟨some 48, none, .ldn 2 (.t 47)⟩,
  .op 0 ⟨some 40, none, .mov (.t 4)⟩,
  .op 9 ⟨some 49, none, .callv (.t 40) [(.t 44), (.t 48)]⟩,
  .op 10 ⟨some 50, none, .bin .lss (.t 49) (.c (.int .i64 0))⟩])
  (.cond (.t 50)
  (.ops [⟨some 51, none, .mov (.t 12)⟩,
  ⟨some 52, none, .bin .add (.t 51) (.c (.int .i64 1))⟩,
  ⟨some 10, none, .mov (.t 52)⟩])
  (.ops [⟨some 53, none, .mov (.t 12)⟩,
  ⟨some 11, none, .mov (.t 53)⟩]))
def c1_slices_symMergeCmpFunc_input_Key : C :=
 .block 1
  (.seq (.ops [⟨some 34, none, .mov (.t 10)⟩,
  ⟨some 35, none, .mov (.t 11)⟩,
  ⟨some 36, none, .bin .add (.t 34) (.t 35)⟩,
  ⟨some 37, none, .conv .u64 (.t 36)⟩,
  ⟨some 38, none, .bin .shr (.t 37) (.c (.int .u64 1))⟩,
  ⟨some 39, none, .conv .i64 (.t 38)⟩,
  ⟨some 12, none, .mov (.t 39)⟩])
  (c0_slices_symMergeCmpFunc_input_Key))
def c2_slices_symMergeCmpFunc_input_Key : C :=
 .seq (.seq (.ops [⟨some 31, none, .mov (.t 10)⟩,
  ⟨some 32, none, .mov (.t 11)⟩,
  ⟨some 33, none, .bin .lss (.t 31) (.t 32)⟩])
  (.cond (.t 33)
  (.skip)
  (.exit 0)))
  (c1_slices_symMergeCmpFunc_input_Key)
def c3_slices_symMergeCmpFunc_input_Key : C :=
 .seq (.block 3
  (.any 0 [.op 5 ⟨some 66, none, .mov (.t 0)⟩,
  .op 6 ⟨some 67, none, .mov (.t 13)⟩,
  .op 7 ⟨some 68, none, .bin .add (.t 67) (.c (.int .i64 1))⟩,
  .op 8 ⟨some 69, none, .ia 2 (.t 66) (.t 68)⟩,
  .op 9 ⟨some 70, none, .ldn 2 (.t 69)⟩,
  .op 10 ⟨some 71, none, .mov (.t 0)⟩,
  .op 11 ⟨some 72, none, .mov (.t 13)⟩,
  .op 12 ⟨some 73, none, .ia 2 (.t 71) (.t 72)⟩,
  .op 13 ⟨some 74, none, .ldn 2 (.t 73)⟩,
  .op 0 ⟨some 61, none, .mov (.t 0)⟩,
  .op 1 ⟨some 62, none, .mov (.t 13)⟩,
  .op 14 ⟨some 75, none, .ia 2 (.t 61) (.t 62)⟩,
  .op 15 ⟨none, none, .stn 2 (.t 75) (.t 70)⟩,
  .op 2 ⟨some 63, none, .mov (.t 0)⟩,
  .op 3 ⟨some 64, none, .mov (.t 13)⟩,
  .op 4 ⟨some 65, none, .bin .add (.t 64) (.c (.int .i64 1))⟩,
  .op 16 ⟨some 76, none, .ia 2 (.t 63) (.t 65)⟩,
  .op 17 ⟨none, none, .stn 2 (.t 76) (.t 74)⟩]))
  (.ops [⟨some 59, none, .mov (.t 13)⟩,
  ⟨some 60, none, .bin .add (.t 59) (.c (.int .i64 1))⟩,
  ⟨some 13, none, .mov (.t 60)⟩])
def c4_slices_symMergeCmpFunc_input_Key : C :=
 .seq (.seq (.ops [⟨some 55, none, .mov (.t 13)⟩,
  ⟨some 56, none, .mov (.t 10)⟩,
  ⟨some 57, none, .bin .sub (.t 56) (.c (.int .i64 1))⟩,
  ⟨some 58, none, .bin .lss (.t 55) (.t 57)⟩])
  (.cond (.t 58)
  (.skip)
  (.exit 2)))
  (c3_slices_symMergeCmpFunc_input_Key)
def c5_slices_symMergeCmpFunc_input_Key : C :=
 .seq (.ops [⟨some 29, none, .mov (.t 2)⟩,
  ⟨some 10, none, .mov (.t 29)⟩])
  (.seq (.ops [⟨some 30, none, .mov (.t 3)⟩,
  ⟨some 11, none, .mov (.t 30)⟩])
  (.seq (.block 0
  (.loop c2_slices_symMergeCmpFunc_input_Key))
  (.seq (.seq (.ops [⟨some 54, none, .mov (.t 1)⟩,
  ⟨some 13, none, .mov (.t 54)⟩])
  (.block 2
  (.loop c4_slices_symMergeCmpFunc_input_Key)))
  (.ret))))
def c6_slices_symMergeCmpFunc_input_Key : C :=
 .seq (.any 0 [.op 1 ⟨some 93, none, .mov (.t 0)⟩,
  .op 2 ⟨some 94, none, .mov (.t 2)⟩,
  .op 3 ⟨some 95, none, .ia 2 (.t 93) (.t 94)⟩,
  .op 4 ⟨some 96, none, .ldn 2 (.t 95)⟩,
  .op 5 ⟨some 97, none, .mov (.t 0)⟩,
  .op 6 ⟨some 98, none, .mov (.t 16)⟩,
  .op 7 ⟨some 99, none, .ia 2 (.t 97) (.t 98)⟩,
  .op 8 ⟨some 100, none, .ldn 2 (.t 99)⟩,
  .op 0 ⟨some 92, none, .mov (.t 4)⟩,
  .op 9 ⟨some 101, none, .callv (.t 92) [(.t 96), (.t 100)]⟩,
  .op 10 ⟨some 102, none, .bin .lss (.t 101) (.c (.int .i64 0))⟩,
  .op 11 ⟨some 103, none, .un .not (.t 102)⟩])
  (.cond (.t 103)
  (.ops [⟨some 104, none, .mov (.t 16)⟩,
  ⟨some 105, none, .bin .add (.t 104) (.c (.int .i64 1))⟩,
  ⟨some 14, none, .mov (.t 105)⟩])
  (.ops [⟨some 106, none, .mov (.t 16)⟩,
  ⟨some 15, none, .mov (.t 106)⟩]))
def c7_slices_symMergeCmpFunc_input_Key : C :=
 .block 5
  (.seq (.ops [⟨some 86, none, .mov (.t 14)⟩,
  ⟨some 87, none, .mov (.t 15)⟩,
  ⟨some 88, none, .bin .add (.t 86) (.t 87)⟩,
  ⟨some 89, none, .conv .u64 (.t 88)⟩,
  ⟨some 90, none, .bin .shr (.t 89) (.c (.int .u64 1))⟩,
  ⟨some 91, none, .conv .i64 (.t 90)⟩,
  ⟨some 16, none, .mov (.t 91)⟩])
  (c6_slices_symMergeCmpFunc_input_Key))
def c8_slices_symMergeCmpFunc_input_Key : C :=
 .seq (.seq (.ops [⟨some 83, none, .mov (.t 14)⟩,
  ⟨some 84, none, .mov (.t 15)⟩,
  ⟨some 85, none, .bin .lss (.t 83) (.t 84)⟩])
  (.cond (.t 85)
  (.skip)
  (.exit 4)))
  (c7_slices_symMergeCmpFunc_input_Key)
def c9_slices_symMergeCmpFunc_input_Key : C :=
 .seq (.block 7
  (.any 0 [.op 5 ⟨some 118, none, .mov (.t 0)⟩,
  .op 6 ⟨some 119, none, .mov (.t 17)⟩,
  .op 7 ⟨some 120, none, .bin .sub (.t 119) (.c (.int .i64 1))⟩,
  .op 8 ⟨some 121, none, .ia 2 (.t 118) (.t 120)⟩,
  .op 9 ⟨some 122, none, .ldn 2 (.t 121)⟩,
  .op 10 ⟨some 123, none, .mov (.t 0)⟩,
  .op 11 ⟨some 124, none, .mov (.t 17)⟩,
  .op 12 ⟨some 125, none, .ia 2 (.t 123) (.t 124)⟩,
  .op 13 ⟨some 126, none, .ldn 2 (.t 125)⟩,
  .op 0 ⟨some 113, none, .mov (.t 0)⟩,
  .op 1 ⟨some 114, none, .mov (.t 17)⟩,
  .op 14 ⟨some 127, none, .ia 2 (.t 113) (.t 114)⟩,
  .op 15 ⟨none, none, .stn 2 (.t 127) (.t 122)⟩,
  .op 2 ⟨some 115, none, .mov (.t 0)⟩,
  .op 3 ⟨some 116, none, .mov (.t 17)⟩,
  .op 4 ⟨some 117, none, .bin .sub (.t 116) (.c (.int .i64 1))⟩,
  .op 16 ⟨some 128, none, .ia 2 (.t 115) (.t 117)⟩,
  .op 17 ⟨none, none, .stn 2 (.t 128) (.t 126)⟩]))
  (.ops [⟨some 111, none, .mov (.t 17)⟩,
  ⟨some 112, none, .bin .sub (.t 111) (.c (.int .i64 1))⟩,
  ⟨some 17, none, .mov (.t 112)⟩])
def c10_slices_symMergeCmpFunc_input_Key : C :=
 .seq (.seq (.ops [⟨some 108, none, .mov (.t 17)⟩,
  ⟨some 109, none, .mov (.t 14)⟩,
  ⟨some 110, none, .bin .gtr (.t 108) (.t 109)⟩])
  (.cond (.t 110)
  (.skip)
  (.exit 6)))
  (c9_slices_symMergeCmpFunc_input_Key)
def c11_slices_symMergeCmpFunc_input_Key : C :=
 .seq (.ops [⟨some 81, none, .mov (.t 1)⟩,
  ⟨some 14, none, .mov (.t 81)⟩])
  (.seq (.ops [⟨some 82, none, .mov (.t 2)⟩,
  ⟨some 15, none, .mov (.t 82)⟩])
  (.seq (.block 4
  (.loop c8_slices_symMergeCmpFunc_input_Key))
  (.seq (.seq (.ops [⟨some 107, none, .mov (.t 2)⟩,
  ⟨some 17, none, .mov (.t 107)⟩])
  (.block 6
  (.loop c10_slices_symMergeCmpFunc_input_Key)))
  (.ret))))
def c12_slices_symMergeCmpFunc_input_Key : C :=
 .cond (.t 140)
  (.seq (.ops [⟨some 141, none, .mov (.t 19)⟩,
  ⟨some 142, none, .mov (.t 3)⟩,
  ⟨some 143, none, .bin .sub (.t 141) (.t 142)⟩,
  ⟨some 20, none, .mov (.t 143)⟩])
  (.ops [⟨some 144, none, .mov (.t 18)⟩,
  ⟨some 21, none, .mov (.t 144)⟩]))
  (.seq (.ops [⟨some 145, none, .mov (.t 1)⟩,
  ⟨some 20, none, .mov (.t 145)⟩])
  (.ops [⟨some 146, none, .mov (.t 2)⟩,
  ⟨some 21, none, .mov (.t 146)⟩]))
def c13_slices_symMergeCmpFunc_input_Key : C :=
 .seq (.any 0 [.op 1 ⟨some 159, none, .mov (.t 0)⟩,
  .op 2 ⟨some 160, none, .mov (.t 22)⟩,
  .op 3 ⟨some 161, none, .mov (.t 23)⟩,
  .op 4 ⟨some 162, none, .bin .sub (.t 160) (.t 161)⟩,
  .op 5 ⟨some 163, none, .ia 2 (.t 159) (.t 162)⟩,
  .op 6 ⟨some 164, none, .ldn 2 (.t 163)⟩,
  .op 7 ⟨some 165, none, .mov (.t 0)⟩,
  .op 8 ⟨some 166, none, .mov (.t 23)⟩,
  .op 9 ⟨some 167, none, .ia 2 (.t 165) (.t 166)⟩,
  .op 10 ⟨some 168, none, .ldn 2 (.t 167)⟩,
  .op 0 ⟨some 158, none, .mov (.t 4)⟩,
  .op 11 ⟨some 169, none, .callv (.t 158) [(.t 164), (.t 168)]⟩,
  .op 12 ⟨some 170, none, .bin .lss (.t 169) (.c (.int .i64 0))⟩,
  .op 13 ⟨some 171, none, .un .not (.t 170)⟩])
  (.cond (.t 171)
  (.ops [⟨some 172, none, .mov (.t 23)⟩,
  ⟨some 173, none, .bin .add (.t 172) (.c (.int .i64 1))⟩,
  ⟨some 20, none, .mov (.t 173)⟩])
  (.ops [⟨some 174, none, .mov (.t 23)⟩,
  ⟨some 21, none, .mov (.t 174)⟩]))
def c14_slices_symMergeCmpFunc_input_Key : C :=
 .block 9
  (.seq (.ops [⟨some 152, none, .mov (.t 20)⟩,
  ⟨some 153, none, .mov (.t 21)⟩,
  ⟨some 154, none, .bin .add (.t 152) (.t 153)⟩,
  ⟨some 155, none, .conv .u64 (.t 154)⟩,
  ⟨some 156, none, .bin .shr (.t 155) (.c (.int .u64 1))⟩,
  ⟨some 157, none, .conv .i64 (.t 156)⟩,
  ⟨some 23, none, .mov (.t 157)⟩])
  (c13_slices_symMergeCmpFunc_input_Key))
def c15_slices_symMergeCmpFunc_input_Key : C :=
 .seq (.seq (.ops [⟨some 149, none, .mov (.t 20)⟩,
  ⟨some 150, none, .mov (.t 21)⟩,
  ⟨some 151, none, .bin .lss (.t 149) (.t 150)⟩])
  (.cond (.t 151)
  (.skip)
  (.exit 8)))
  (c14_slices_symMergeCmpFunc_input_Key)
def c16_slices_symMergeCmpFunc_input_Key : C :=
 .seq (.ops [⟨some 206, none, .mov (.t 18)⟩,
  ⟨some 207, none, .mov (.t 24)⟩,
  ⟨some 208, none, .bin .lss (.t 206) (.t 207)⟩,
  ⟨some 209, none, .mov (.t 208)⟩,
  ⟨some 210, some (209, true), .mov (.t 24)⟩,
  ⟨some 211, some (209, true), .mov (.t 3)⟩,
  ⟨some 212, some (209, true), .bin .lss (.t 210) (.t 211)⟩,
  ⟨some 213, none, .pick (.t 209) (.t 212) (.c (.bool false))⟩])
  (.cond (.t 213)
  (.ops [⟨some 214, none, .mov (.t 0)⟩,
  ⟨some 215, none, .mov (.t 18)⟩,
  ⟨some 216, none, .mov (.t 24)⟩,
  ⟨some 217, none, .mov (.t 3)⟩,
  ⟨some 218, none, .mov (.t 4)⟩,
  ⟨some 219, none, .call n_slices_symMergeCmpFunc_input_Key [(.t 214), (.t 215), (.t 216), (.t 217), (.t 218)]⟩])
  (.skip))
def c17_slices_symMergeCmpFunc_input_Key : C :=
 .seq (.seq (.ops [⟨some 192, none, .mov (.t 1)⟩,
  ⟨some 193, none, .mov (.t 20)⟩,
  ⟨some 194, none, .bin .lss (.t 192) (.t 193)⟩,
  ⟨some 195, none, .mov (.t 194)⟩,
  ⟨some 196, some (195, true), .mov (.t 20)⟩,
  ⟨some 197, some (195, true), .mov (.t 18)⟩,
  ⟨some 198, some (195, true), .bin .lss (.t 196) (.t 197)⟩,
  ⟨some 199, none, .pick (.t 195) (.t 198) (.c (.bool false))⟩])
  (.cond (.t 199)
  (.ops [⟨some 200, none, .mov (.t 0)⟩,
  ⟨some 201, none, .mov (.t 1)⟩,
  ⟨some 202, none, .mov (.t 20)⟩,
  ⟨some 203, none, .mov (.t 18)⟩,
  ⟨some 204, none, .mov (.t 4)⟩,
  ⟨some 205, none, .call n_slices_symMergeCmpFunc_input_Key [(.t 200), (.t 201), (.t 202), (.t 203), (.t 204)]⟩])
  (.skip)))
  (c16_slices_symMergeCmpFunc_input_Key)
def c18_slices_symMergeCmpFunc_input_Key : C :=
 .seq (.seq (.ops [⟨some 178, none, .mov (.t 20)⟩,
  ⟨some 179, none, .mov (.t 2)⟩,
  ⟨some 180, none, .bin .lss (.t 178) (.t 179)⟩,
  ⟨some 181, none, .mov (.t 180)⟩,
  ⟨some 182, some (181, true), .mov (.t 2)⟩,
  ⟨some 183, some (181, true), .mov (.t 24)⟩,
  ⟨some 184, some (181, true), .bin .lss (.t 182) (.t 183)⟩,
  ⟨some 185, none, .pick (.t 181) (.t 184) (.c (.bool false))⟩])
  (.cond (.t 185)
  (.ops [⟨some 186, none, .mov (.t 0)⟩,
  ⟨some 187, none, .mov (.t 20)⟩,
  ⟨some 188, none, .mov (.t 2)⟩,
  ⟨some 189, none, .mov (.t 24)⟩,
  ⟨some 190, none, .mov (.t 4)⟩,
  ⟨some 191, none, .call n_slices_rotateCmpFunc_input_Key [(.t 186), (.t 187), (.t 188), (.t 189), (.t 190)]⟩])
  (.skip)))
  (c17_slices_symMergeCmpFunc_input_Key)
def c19_slices_symMergeCmpFunc_input_Key : C :=
 .seq (.ops [⟨some 147, none, .mov (.t 19)⟩,
  ⟨some 148, none, .bin .sub (.t 147) (.c (.int .i64 1))⟩,
  ⟨some 22, none, .mov (.t 148)⟩])
  (.seq (.block 8
  (.loop c15_slices_symMergeCmpFunc_input_Key))
  (.seq (.ops [⟨some 175, none, .mov (.t 19)⟩,
  ⟨some 176, none, .mov (.t 20)⟩,
  ⟨some 177, none, .bin .sub (.t 175) (.t 176)⟩,
  ⟨some 24, none, .mov (.t 177)⟩])
  (c18_slices_symMergeCmpFunc_input_Key)))
def c20_slices_symMergeCmpFunc_input_Key : C :=
 .seq (.ops [⟨some 135, none, .mov (.t 18)⟩,
  ⟨some 136, none, .mov (.t 2)⟩,
  ⟨some 137, none, .bin .add (.t 135) (.t 136)⟩,
  ⟨some 19, none, .mov (.t 137)⟩])
  (.seq (.ops [⟨some 20, none, .mov (.c (.int .i64 0))⟩,
  ⟨some 21, none, .mov (.c (.int .i64 0))⟩])
  (.seq (.seq (.ops [⟨some 138, none, .mov (.t 2)⟩,
  ⟨some 139, none, .mov (.t 18)⟩,
  ⟨some 140, none, .bin .gtr (.t 138) (.t 139)⟩])
  (c12_slices_symMergeCmpFunc_input_Key))
  (c19_slices_symMergeCmpFunc_input_Key)))
def c21_slices_symMergeCmpFunc_input_Key : C :=
 .seq (.ops [⟨some 129, none, .mov (.t 1)⟩,
  ⟨some 130, none, .mov (.t 3)⟩,
  ⟨some 131, none, .bin .add (.t 129) (.t 130)⟩,
  ⟨some 132, none, .conv .u64 (.t 131)⟩,
  ⟨some 133, none, .bin .shr (.t 132) (.c (.int .u64 1))⟩,
  ⟨some 134, none, .conv .i64 (.t 133)⟩,
  ⟨some 18, none, .mov (.t 134)⟩])
  (c20_slices_symMergeCmpFunc_input_Key)
def c_slices_symMergeCmpFunc_input_Key : C :=
 .seq (.seq (.ops [⟨some 25, none, .mov (.t 2)⟩,
  ⟨some 26, none, .mov (.t 1)⟩,
  ⟨some 27, none, .bin .sub (.t 25) (.t 26)⟩,
  ⟨some 28, none, .bin .eql (.t 27) (.c (.int .i64 1))⟩])
  (.cond (.t 28)
  (c5_slices_symMergeCmpFunc_input_Key)
  (.skip)))
  (.seq (.seq (.ops [⟨some 77, none, .mov (.t 3)⟩,
  ⟨some 78, none, .mov (.t 2)⟩,
  ⟨some 79, none, .bin .sub (.t 77) (.t 78)⟩,
  ⟨some 80, none, .bin .eql (.t 79) (.c (.int .i64 1))⟩])
  (.cond (.t 80)
  (c11_slices_symMergeCmpFunc_input_Key)
  (.skip)))
  (c21_slices_symMergeCmpFunc_input_Key))
def f_slices_symMergeCmpFunc_input_Key : F := ⟨c_slices_symMergeCmpFunc_input_Key, [], some []⟩
theorem h_slices_symMergeCmpFunc_input_Key : compF Try.prog (compAny Try.prog) n_slices_symMergeCmpFunc_input_Key = some (f_slices_symMergeCmpFunc_input_Key.body, f_slices_symMergeCmpFunc_input_Key.res) := by kernel_rfl
/- slices.insertionSortCmpFunc[pianola/api.Event] -/
def c0_slices_insertionSortCmpFunc_api_Event : C :=
 .seq (.block 3
  (.any 0 [.op 5 ⟨some 42, none, .mov (.t 0)⟩,
  .op 6 ⟨some 43, none, .mov (.t 9)⟩,
  .op 7 ⟨some 44, none, .bin .sub (.t 43) (.c (.int .i64 1))⟩,
  .op 8 ⟨some 45, none, .ia 3 (.t 42) (.t 44)⟩,
  .op 9 ⟨some 46, none, .ldn 3 (.t 45)⟩,
  .op 10 ⟨some 47, none, .mov (.t 0)⟩,
  .op 11 ⟨some 48, none, .mov (.t 9)⟩,
  .op 12 ⟨some 49, none, .ia 3 (.t 47) (.t 48)⟩,
  .op 13 ⟨some 50, none, .ldn 3 (.t 49)⟩,
  .op 0 ⟨some 37, none, .mov (.t 0)⟩,
  .op 1 ⟨some 38, none, .mov (.t 9)⟩,
  .op 14 ⟨some 51, none, .ia 3 (.t 37) (.t 38)⟩,
  .op 15 ⟨none, none, .stn 3 (.t 51) (.t 46)⟩,
  .op 2 ⟨some 39, none, .mov (.t 0)⟩,
  .op 3 ⟨some 40, none, .mov (.t 9)⟩,
  .op 4 ⟨some 41, none, .bin .sub (.t 40) (.c (.int .i64 1))⟩,
  .op 16 ⟨some 52, none, .ia 3 (.t 39) (.t 41)⟩,
  .op 17 ⟨none, none, .stn 3 (.t 52) (.t 50)⟩]))
  (.ops [⟨some 35, none, .mov (.t 9)⟩,
  ⟨some 36, none, .bin .sub (.t 35) (.c (.int .i64 1))⟩,
  ⟨some 9, none, .mov (.t 36)⟩])
def c1_slices_insertionSortCmpFunc_api_Event : C :=
 .seq (.seq (.any 0 [.op 0 ⟨some 18, none, .mov (.t 9)⟩,
  .op 1 ⟨some 19, none, .mov (.t 1)⟩,
  .op 2 ⟨some 20, none, .bin .gtr (.t 18) (.t 19)⟩,
  .op 3 ⟨some 21, none, .mov (.t 20)⟩,
  .op 5 ⟨some 23, some (21, true), .mov (.t 0)⟩,
  .op 6 ⟨some 24, some (21, true), .mov (.t 9)⟩,
  .op 7 ⟨some 25, some (21, true), .ia 3 (.t 23) (.t 24)⟩,
  .op 8 ⟨some 26, some (21, true), .ldn 3 (.t 25)⟩,
  .op 9 ⟨some 27, some (21, true), .mov (.t 0)⟩,
  .op 10 ⟨some 28, some (21, true), .mov (.t 9)⟩,
  .op 11 ⟨some 29, some (21, true), .bin .sub (.t 28) (.c (.int .i64 1))⟩,
  .op 12 ⟨some 30, some (21, true), .ia 3 (.t 27) (.t 29)⟩,
  .op 13 ⟨some 31, some (21, true), .ldn 3 (.t 30)⟩,
  .op 4 ⟨some 22, some (21, true), .mov (.t 3)⟩,
  .op 14 ⟨some 32, some (21, true), .callv (.t 22) [(.t 26), (.t 31)]⟩,
  .op 15 ⟨some 33, some (21, true), .bin .lss (.t 32) (.c (.int .i64 0))⟩,
  .op 16 ⟨some 34, none, .pick (.t 21) (.t 33) (.c (.bool false))⟩])
  (.cond (.t 34)
  (.skip)
  (.exit 2)))
  (c0_slices_insertionSortCmpFunc_api_Event)
def c2_slices_insertionSortCmpFunc_api_Event : C :=
 .seq (.seq (.ops [⟨some 12, none, .mov (.t 8)⟩,
  ⟨some 13, none, .mov (.t 2)⟩,
  ⟨some 14, none, .bin .lss (.t 12) (.t 13)⟩])
  (.cond (.t 14)
  (.skip)
  (.exit 0)))
  (.seq (.block 1
  (.seq (.ops [⟨some 17, none, .mov (.t 8)⟩,
  ⟨some 9, none, .mov (.t 17)⟩])
  (.block 2
  (.loop c1_slices_insertionSortCmpFunc_api_Event))))
  (.ops [⟨some 15, none, .mov (.t 8)⟩,
  ⟨some 16, none, .bin .add (.t 15) (.c (.int .i64 1))⟩,
  ⟨some 8, none, .mov (.t 16)⟩]))
def c_slices_insertionSortCmpFunc_api_Event : C :=
 .seq (.ops [⟨some 10, none, .mov (.t 1)⟩,
  ⟨some 11, none, .bin .add (.t 10) (.c (.int .i64 1))⟩,
  ⟨some 8, none, .mov (.t 11)⟩])
  (.block 0
  (.loop c2_slices_insertionSortCmpFunc_api_Event))
def f_slices_insertionSortCmpFunc_api_Event : F := ⟨c_slices_insertionSortCmpFunc_api_Event, [], some []⟩
theorem h_slices_insertionSortCmpFunc_api_Event : compF Try.prog (compAny Try.prog) n_slices_insertionSortCmpFunc_api_Event = some (f_slices_insertionSortCmpFunc_api_Event.body, f_slices_insertionSortCmpFunc_api_Event.res) := by kernel_rfl
/- slices.symMergeCmpFunc[pianola/api.Event] -/
def c0_slices_symMergeCmpFunc_api_Event : C :=
 .seq (.any 0 [.op 1 ⟨some 41, none, .mov (.t 0)⟩,
  .op 2 ⟨some 42, none, .mov (.t 12)⟩,
  .op 3 ⟨some 43, none, .ia 3 (.t 41) (.t 42)⟩,
  .op 4 ⟨some 44, none, .ldn 3 (.t 43)⟩,
  .op 5 ⟨some 45, none, .mov (.t 0)⟩,
  .op 6 ⟨some 46, none, .mov (.t 1)⟩,
  .op 7 ⟨some 47, none, .ia 3 (.t 45) (.t 46)⟩,
  .op 8 ⟨some 48, none, .ldn 3 (.t 47)⟩,
  .op 0 ⟨some 40, none, .mov (.t 4)⟩,
  .op 9 ⟨some 49, none, .callv (.t 40) [(.t 44), (.t 48)]⟩,
  .op 10 ⟨some 50, none, .bin .lss (.t 49) (.c (.int .i64 0))⟩])
  (.cond (.t 50)
  (.ops [⟨some 51, none, .mov (.t 12)⟩,
  ⟨some 52, none, .bin .add (.t 51) (.c (.int .i64 1))⟩,
  ⟨some 10, none, .mov (.t 52)⟩])
  (.ops [⟨some 53, none, .mov (.t 12)⟩,
  ⟨some 11, none, .mov (.t 53)⟩]))
def c1_slices_symMergeCmpFunc_api_Event : C :=
 .block 1
  (.seq (.ops [⟨some 34, none, .mov (.t 10)⟩,
  ⟨some 35, none, .mov (.t 11)⟩,
  ⟨some 36, none, .bin .add (.t 34) (.t 35)⟩,
  ⟨some 37, none, .conv .u64 (.t 36)⟩,
  ⟨some 38, none, .bin .shr (.t 37) (.c (.int .u64 1))⟩,
  ⟨some 39, none, .conv .i64 (.t 38)⟩,
  ⟨some 12, none, .mov (.t 39)⟩])
  (c0_slices_symMergeCmpFunc_api_Event))
def c2_slices_symMergeCmpFunc_api_Event : C :=
 .seq (.seq (.ops [⟨some 31, none, .mov (.t 10)⟩,
  ⟨some 32, none, .mov (.t 11)⟩,
  ⟨some 33, none, .bin .lss (.t 31) (.t 32)⟩])
  (.cond (.t 33)
  (.skip)
  (.exit 0)))
  (c1_slices_symMergeCmpFunc_api_Event)
def c3_slices_symMergeCmpFunc_api_Event : C :=
 .seq (.block 3
  (.any 0 [.op 5 ⟨some 66, none, .mov (.t 0)⟩,
  .op 6 ⟨some 67, none, .mov (.t 13)⟩,
  .op 7 ⟨some 68, none, .bin .add (.t 67) (.c (.int .i64 1))⟩,
  .op 8 ⟨some 69, none, .ia 3 (.t 66) (.t 68)⟩,
  .op 9 ⟨some 70, none, .ldn 3 (.t 69)⟩,
  .op 10 ⟨some 71, none, .mov (.t 0)⟩,
  .op 11 ⟨some 72, none, .mov (.t 13)⟩,
  .op 12 ⟨some 73, none, .ia 3 (.t 71) (.t 72)⟩,
  .op 13 ⟨some 74, none, .ldn 3 (.t 73)⟩,
  .op 0 ⟨some 61, none, .mov (.t 0)⟩,
  .op 1 ⟨some 62, none, .mov (.t 13)⟩,
  .op 14 ⟨some 75, none, .ia 3 (.t 61) (.t 62)⟩,
  .op 15 ⟨none, none, .stn 3 (.t 75) (.t 70)⟩,
  .op 2 ⟨some 63, none, .mov (.t 0)⟩,
  .op 3 ⟨some 64, none, .mov (.t 13)⟩,
  .op 4 ⟨some 65, none, .bin .add (.t 64) (.c (.int .i64 1))⟩,
  .op 16 ⟨some 76, none, .ia 3 (.t 63) (.t 65)⟩,
  .op 17 ⟨none, none, .stn 3 (.t 76) (.t 74)⟩]))
  (.ops [⟨some 59, none, .mov (.t 13)⟩,
  ⟨some 60, none, .bin .add (.t 59) (.c (.int .i64 1))⟩,
  ⟨some 13, none, .mov (.t 60)⟩])
def c4_slices_symMergeCmpFunc_api_Event : C :=
 .seq (.seq (.ops [⟨some 55, none, .mov (.t 13)⟩,
  ⟨some 56, none, .mov (.t 10)⟩,
  ⟨some 57, none, .bin .sub (.t 56) (.c (.int .i64 1))⟩,
  ⟨some 58, none, .bin .lss (.t 55) (.t 57)⟩])
  (.cond (.t 58)
  (.skip)
  (.exit 2)))
  (c3_slices_symMergeCmpFunc_api_Event)
def c5_slices_symMergeCmpFunc_api_Event : C :=
 .seq (.ops [⟨some 29, none, .mov (.t 2)⟩,
  ⟨some 10, none, .mov (.t 29)⟩])
  (.seq (.ops [⟨some 30, none, .mov (.t 3)⟩,
  ⟨some 11, none, .mov (.t 30)⟩])
  (.seq (.block 0
  (.loop c2_slices_symMergeCmpFunc_api_Event))
  (.seq (.seq (.ops [⟨some 54, none, .mov (.t 1)⟩,
  ⟨some 13, none, .mov (.t 54)⟩])
  (.block 2
  (.loop c4_slices_symMergeCmpFunc_api_Event)))
  (.ret))))
def c6_slices_symMergeCmpFunc_api_Event : C :=
 .seq (.any 0 [.op 1 ⟨some 93, none, .mov (.t 0)⟩,
  .op 2 ⟨some 94, none, .mov (.t 2)⟩,
  .op 3 ⟨some 95, none, .ia 3 (.t 93) (.t 94)⟩,
  .op 4 ⟨some 96, none, .ldn 3 (.t 95)⟩,
  .op 5 ⟨some 97, none, .mov (.t 0)⟩,
  .op 6 ⟨some 98, none, .mov (.t 16)⟩,
  .op 7 ⟨some 99, none, .ia 3 (.t 97) (.t 98)⟩,
  .op 8 ⟨some 100, none, .ldn 3 (.t 99)⟩,
  .op 0 ⟨some 92, none, .mov (.t 4)⟩,
  .op 9 ⟨some 101, none, .callv (.t 92) [(.t 96), (.t 100)]⟩,
  .op 10 ⟨some 102, none, .bin .lss (.t 101) (.c (.int .i64 0))⟩,
  .op 11 ⟨some 103, none, .un .not (.t 102)⟩])
  (.cond (.t 103)
  (.ops [⟨some 104, none, .mov (.t 16)⟩,
  ⟨some 105, none, .bin .add (.t 104) (.c (.int .i64 1))⟩,
  ⟨some 14, none, .mov (.t 105)⟩])
  (.ops [⟨some 106, none, .mov (.t 16)⟩,
  ⟨some 15, none, .mov (.t 106)⟩]))
def c7_slices_symMergeCmpFunc_api_Event : C :=
 .block 5
  (.seq (.ops [⟨some 86, none, .mov (.t 14)⟩,
  ⟨some 87, none, .mov (.t 15)⟩,
  ⟨some 88, none, .bin .add (.t 86) (.t 87)⟩,
  ⟨some 89, none, .conv .u64 (.t 88)⟩,
  ⟨some 90, none, .bin .shr (.t 89) (.c (.int .u64 1))⟩,
  ⟨some 91, none, .conv .i64 (.t 90)⟩,
  ⟨some 16, none, .mov (.t 91)⟩])
  (c6_slices_symMergeCmpFunc_api_Event))
def c8_slices_symMergeCmpFunc_api_Event : C :=
 .seq (.seq (.ops [⟨some 83, none, .mov (.t 14)⟩,
  ⟨some 84, none, .mov (.t 15)⟩,
  ⟨some 85, none, .bin .lss (.t 83) (.t 84)⟩])
  (.cond (.t 85)
  (.skip)
  (.exit 4)))
  (c7_slices_symMergeCmpFunc_api_Event)
def c9_slices_symMergeCmpFunc_api_Event : C :=
 .seq (.block 7
  (.any 0 [.op 5 ⟨some 118, none, .mov (.t 0)⟩,
  .op 6 ⟨some 119, none, .mov (.t 17)⟩,
  .op 7 ⟨some 120, none, .bin .sub (.t 119) (.c (.int .i64 1))⟩,
  .op 8 ⟨some 121, none, .ia 3 (.t 118) (.t 120)⟩,
  .op 9 ⟨some 122, none, .ldn 3 (.t 121)⟩,
  .op 10 ⟨some 123, none, .mov (.t 0)⟩,
  .op 11 ⟨some 124, none, .mov (.t 17)⟩,
  .op 12 ⟨some 125, none, .ia 3 (.t 123) (.t 124)⟩,
  .op 13 ⟨some 126, none, .ldn 3 (.t 125)⟩,
  .op 0 ⟨some 113, none, .mov (.t 0)⟩,
  .op 1 ⟨some 114, none, .mov (.t 17)⟩,
  .op 14 ⟨some 127, none, .ia 3 (.t 113) (.t 114)⟩,
  .op 15 ⟨none, none, .stn 3 (.t 127) (.t 122)⟩,
  .op 2 ⟨some 115, none, .mov (.t 0)⟩,
  .op 3 ⟨some 116, none, .mov (.t 17)⟩,
  .op 4 ⟨some 117, none, .bin .sub (.t 116) (.c (.int .i64 1))⟩,
  .op 16 ⟨some 128, none, .ia 3 (.t 115) (.t 117)⟩,
  .op 17 ⟨none, none, .stn 3 (.t 128) (.t 126)⟩]))
  (.ops [⟨some 111, none, .mov (.t 17)⟩,
  ⟨some 112, none, .bin .sub (.t 111) (.c (.int .i64 1))⟩,
  ⟨some 17, none, .mov (.t 112)⟩])
def c10_slices_symMergeCmpFunc_api_Event : C :=
 .seq (.seq (.ops [⟨some 108, none, .mov (.t 17)⟩,
  ⟨some 109, none, .mov (.t 14)⟩,
  ⟨some 110, none, .bin .gtr (.t 108) (.t 109)⟩])
  (.cond (.t 110)
  (.skip)
  (.exit 6)))
  (c9_slices_symMergeCmpFunc_api_Event)
def c11_slices_symMergeCmpFunc_api_Event : C :=
 .seq (.ops [⟨some 81, none, .mov (.t 1)⟩,
  ⟨some 14, none, .mov (.t 81)⟩])
  (.seq (.ops [⟨some 82, none, .mov (.t 2)⟩,
  ⟨some 15, none, .mov (.t 82)⟩])
  (.seq (.block 4
  (.loop c8_slices_symMergeCmpFunc_api_Event))
  (.seq (.seq (.ops [⟨some 107, none, .mov (.t 2)⟩,
  ⟨some 17, none, .mov (.t 107)⟩])
  (.block 6
  (.loop c10_slices_symMergeCmpFunc_api_Event)))
  (.ret))))
def c12_slices_symMergeCmpFunc_api_Event : C :=
 .cond (.t 140)
  (.seq (.ops [⟨some 141, none, .mov (.t 19)⟩,
  ⟨some 142, none, .mov (.t 3)⟩,
  ⟨some 143, none, .bin .sub (.t 141) (.t 142)⟩,
  ⟨some 20, none, .mov (.t 143)⟩])
  (.ops [⟨some 144, none, .mov (.t 18)⟩,
  ⟨some 21, none, .mov (.t 144)⟩]))
  (.seq (.ops [⟨some 145, none, .mov (.t 1)⟩,
  ⟨some 20, none, .mov (.t 145)⟩])
  (.ops [⟨some 146, none, .mov (.t 2)⟩,
  ⟨some 21, none, .mov (.t 146)⟩]))
def c13_slices_symMergeCmpFunc_api_Event : C :=
 .seq (.any 0 [.op 1 ⟨some 159, none, .mov (.t 0)⟩,
  .op 2 ⟨some 160, none, .mov (.t 22)⟩,
  .op 3 ⟨some 161, none, .mov (.t 23)⟩,
  .op 4 ⟨some 162, none, .bin .sub (.t 160) (.t 161)⟩,
  .op 5 ⟨some 163, none, .ia 3 (.t 159) (.t 162)⟩,
  .op 6 ⟨some 164, none, .ldn 3 (.t 163)⟩,
  .op 7 ⟨some 165, none, .mov (.t 0)⟩,
  .op 8 ⟨some 166, none, .mov (.t 23)⟩,
  .op 9 ⟨some 167, none, .ia 3 (.t 165) (.t 166)⟩,
  .op 10 ⟨some 168, none, .ldn 3 (.t 167)⟩,
  .op 0 ⟨some 158, none, .mov (.t 4)⟩,
  .op 11 ⟨some 169, none, .callv (.t 158) [(.t 164), (.t 168)]⟩,
  .op 12 ⟨some 170, none, .bin .lss (.t 169) (.c (.int .i64 0))⟩,
  .op 13 ⟨some 171, none, .un .not (.t 170)⟩])
  (.cond (.t 171)
  (.ops [⟨some 172, none, .mov (.t 23)⟩,
  ⟨some 173, none, .bin .add (.t 172) (.c (.int .i64 1))⟩,
  ⟨some 20, none, .mov (.t 173)⟩])
  (.ops [⟨some 174, none, .mov (.t 23)⟩,
  ⟨some 21, none, .mov (.t 174)⟩]))
def c14_slices_symMergeCmpFunc_api_Event : C :=
 .block 9
  (.seq (.ops [⟨some 152, none, .mov (.t 20)⟩,
  ⟨some 153, none, .mov (.t 21)⟩,
  ⟨some 154, none, .bin .add (.t 152) (.t 153)⟩,
  ⟨some 155, none, .conv .u64 (.t 154)⟩,
  ⟨some 156, none, .bin .shr (.t 155) (.c (.int .u64 1))⟩,
  ⟨some 157, none, .conv .i64 (.t 156)⟩,
  ⟨some 23, none, .mov (.t 157)⟩])
  (c13_slices_symMergeCmpFunc_api_Event))
def c15_slices_symMergeCmpFunc_api_Event : C :=
 .seq (.seq (.ops [⟨some 149, none, .mov (.t 20)⟩,
  ⟨some 150, none, .mov (.t 21)⟩,
  ⟨some 151, none, .bin .lss (.t 149) (.t 150)⟩])
  (.cond (.t 151)
  (.skip)
  (.exit 8)))
  (c14_slices_symMergeCmpFunc_api_Event)
def c16_slices_symMergeCmpFunc_api_Event : C :=
 .seq (.ops [⟨some 206, none, .mov (.t 18)⟩,
  ⟨some 207, none, .mov (.t 24)⟩,
  ⟨some 208, none, .bin .lss (.t 206) (.t 207)⟩,
  ⟨some 209, none, .mov (.t 208)⟩,
  ⟨some 210, some (209, true), .mov (.t 24)⟩,
  ⟨some 211, some (209, true), .mov (.t 3)⟩,
  ⟨some 212, some (209, true), .bin .lss (.t 210) (.t 211)⟩,
  ⟨some 213, none, .pick (.t 209) (.t 212) (.c (.bool false))⟩])
  (.cond (.t 213)
  (.ops [⟨some 214, none, .mov (.t 0)⟩,
  ⟨some 215, none, .mov (.t 18)⟩,
  ⟨some 216, none, .mov (.t 24)⟩,
  ⟨some 217, none, .mov (.t 3)⟩,
  ⟨some 218, none, .mov (.t 4)⟩,
  ⟨some 219, none, .call n_slices_symMergeCmpFunc_api_Event [(.t 214), (.t 215), (.t 216), (.t 217), (.t 218)]⟩])
  (.skip))
def c17_slices_symMergeCmpFunc_api_Event : C :=
 .seq (.seq (.ops [⟨some 192, none, .mov (.t 1)⟩,
  ⟨some 193, none, .mov (.t 20)⟩,
  ⟨some 194, none, .bin .lss (.t 192) (.t 193)⟩,
  ⟨some 195, none, .mov (.t 194)⟩,
  ⟨some 196, some (195, true), .mov (.t 20)⟩,
  ⟨some 197, some (195, true), .mov (.t 18)⟩,
  ⟨some 198, some (195, true), .bin .lss (.t 196) (.t 197)⟩,
  ⟨some 199, none, .pick (.t 195) (.t 198) (.c (.bool false))⟩])
  (.cond (.t 199)
  (.ops [⟨some 200, none, .mov (.t 0)⟩,
  ⟨some 201, none, .mov (.t 1)⟩,
  ⟨some 202, none, .mov (.t 20)⟩,
  ⟨some 203, none, .mov (.t 18)⟩,
  ⟨some 204, none, .mov (.t 4)⟩,
  ⟨some 205, none, .call n_slices_symMergeCmpFunc_api_Event [(.t 200), (.t 201), (.t 202), (.t 203), (.t 204)]⟩])
  (.skip)))
  (c16_slices_symMergeCmpFunc_api_Event)
def c18_slices_symMergeCmpFunc_api_Event : C :=
 .seq (.seq (.ops [⟨some 178, none, .mov (.t 20)⟩,
  ⟨some 179, none, .mov (.t 2)⟩,
  ⟨some 180, none, .bin .lss (.t 178) (.t 179)⟩,
  ⟨some 181, none, .mov (.t 180)⟩,
  ⟨some 182, some (181, true), .mov (.t 2)⟩,
  ⟨some 183, some (181, true), .mov (.t 24)⟩,
  ⟨some 184, some (181, true), .bin .lss (.t 182) (.t 183)⟩,
  ⟨some 185, none, .pick (.t 181) (.t 184) (.c (.bool false))⟩])
  (.cond (.t 185)
  (.ops [⟨some 186, none, .mov (.t 0)⟩,
  ⟨some 187, none, .mov (.t 20)⟩,
  ⟨some 188, none, .mov (.t 2)⟩,
  ⟨some 189, none, .mov (.t 24)⟩,
  ⟨some 190, none, .mov (.t 4)⟩,
  ⟨some 191, none, .call n_slices_rotateCmpFunc_api_Event [(.t 186), (.t 187), (.t 188), (.t 189), (.t 190)]⟩])
  (.skip)))
  (c17_slices_symMergeCmpFunc_api_Event)
def c19_slices_symMergeCmpFunc_api_Event : C :=
 .seq (.ops [⟨some 147, none, .mov (.t 19)⟩,
  ⟨some 148, none, .bin .sub (.t 147) (.c (.int .i64 1))⟩,
  ⟨some 22, none, .mov (.t 148)⟩])
  (.seq (.block 8
  (.loop c15_slices_symMergeCmpFunc_api_Event))
  (.seq (.ops [⟨some 175, none, .mov (.t 19)⟩,
  ⟨some 176, none, .mov (.t 20)⟩,
  ⟨some 177, none, .bin .sub (.t 175) (.t 176)⟩,
  ⟨some 24, none, .mov (.t 177)⟩])
  (c18_slices_symMergeCmpFunc_api_Event)))
def c20_slices_symMergeCmpFunc_api_Event : C :=
 .seq (.ops [⟨some 135, none, .mov (.t 18)⟩,
  ⟨some 136, none, .mov (.t 2)⟩,
  ⟨some 137, none, .bin .add (.t 135) (.t 136)⟩,
  ⟨some 19, none, .mov (.t 137)⟩])
  (.seq (.ops [⟨some 20, none, .mov (.c (.int .i64 0))⟩,
  ⟨some 21, none, .mov (.c (.int .i64 0))⟩])
  (.seq (.seq (.ops [⟨some 138, none, .mov (.t 2)⟩,
  ⟨some 139, none, .mov (.t 18)⟩,
  ⟨some 140, none, .bin .gtr (.t 138) (.t 139)⟩])
  (c12_slices_symMergeCmpFunc_api_Event))
  (c19_slices_symMergeCmpFunc_api_Event)))
def c21_slices_symMergeCmpFunc_api_Event : C :=
 .seq (.ops [⟨some 129, none, .mov (.t 1)⟩,
  ⟨some 130, none, .mov (.t 3)⟩,
  ⟨some 131, none, .bin .add (.t 129) (.t 130)⟩,
  ⟨some 132, none, .conv .u64 (.t 131)⟩,
  ⟨some 133, none, .bin .shr (.t 132) (.c (.int .u64 1))⟩,
  ⟨some 134, none, .conv .i64 (.t 133)⟩,
  ⟨some 18, none, .mov (.t 134)⟩])
  (c20_slices_symMergeCmpFunc_api_Event)
def c_slices_symMergeCmpFunc_api_Event : C :=
 .seq (.seq (.ops [⟨some 25, none, .mov (.t 2)⟩,
  ⟨some 26, none, .mov (.t 1)⟩,
  ⟨some 27, none, .bin .sub (.t 25) (.t 26)⟩,
  ⟨some 28, none, .bin .eql (.t 27) (.c (.int .i64 1))⟩])
  (.cond (.t 28)
  (c5_slices_symMergeCmpFunc_api_Event)
  (.skip)))
  (.seq (.seq (.ops [⟨some 77, none, .mov (.t 3)⟩,
  ⟨some 78, none, .mov (.t 2)⟩,
  ⟨some 79, none, .bin .sub (.t 77) (.t 78)⟩,
  ⟨some 80, none, .bin .eql (.t 79) (.c (.int .i64 1))⟩])
  (.cond (.t 80)
  (c11_slices_symMergeCmpFunc_api_Event)
  (.skip)))
  (c21_slices_symMergeCmpFunc_api_Event))
def f_slices_symMergeCmpFunc_api_Event : F := ⟨c_slices_symMergeCmpFunc_api_Event, [], some []⟩
theorem h_slices_symMergeCmpFunc_api_Event : compF Try.prog (compAny Try.prog) n_slices_symMergeCmpFunc_api_Event = some (f_slices_symMergeCmpFunc_api_Event.body, f_slices_symMergeCmpFunc_api_Event.res) := by kernel_rfl
/- (*pianola/pianolaref2.Ram).In -/
def c0_pianolaref2_Ram_In : C :=
 .seq (.ops [⟨some 7, none, .mov (.t 2)⟩,
  ⟨some 8, none, .bin .geq (.t 7) (.c (.int .i64 0))⟩,
  ⟨some 9, none, .mov (.t 8)⟩,
  ⟨some 10, some (9, true), .mov (.t 1)⟩,
  ⟨some 11, some (9, true), .conv .u64 (.t 10)⟩,
  ⟨some 12, some (9, true), .mov (.t 2)⟩,
  ⟨some 13, some (9, true), .conv .u64 (.t 12)⟩,
  ⟨some 14, some (9, true), .bin .add (.t 11) (.t 13)⟩,
  ⟨some 15, some (9, true), .mov (.t 0)⟩,
  ⟨some 16, some (9, true), .nilc (.t 15)⟩,
  ⟨some 17, some (9, true), .fa 0 (.t 16)⟩,
  ⟨some 18, some (9, true), .ld (.t 17)⟩,
  ⟨some 19, some (9, true), .len 1 (.t 18)⟩,
  ⟨some 20, some (9, true), .conv .u64 (.t 19)⟩,
  ⟨some 21, some (9, true), .bin .leq (.t 14) (.t 20)⟩,
  ⟨some 22, none, .pick (.t 9) (.t 21) (.c (.bool false))⟩,
  ⟨some 6, none, .mov (.t 22)⟩])
  (.ret)
def c_pianolaref2_Ram_In : C :=
 .seq (.ops [⟨some 6, none, .mov (.c (.bool false))⟩])
  (c0_pianolaref2_Ram_In)
def f_pianolaref2_Ram_In : F := ⟨c_pianolaref2_Ram_In, [.t 6], some []⟩
theorem h_pianolaref2_Ram_In : compF Try.prog (compAny Try.prog) n_pianolaref2_Ram_In = some (f_pianolaref2_Ram_In.body, f_pianolaref2_Ram_In.res) := by kernel_rfl
/- (*pianola/pianolaref2.Ram).Bytes -/
def c0_pianolaref2_Ram_Bytes : C :=
 .seq (.ops [⟨some 13, none, .bsl 0 [] []⟩,
  ⟨some 14, none, .mov (.t 0)⟩,
  ⟨some 15, none, .nilc (.t 14)⟩,
  ⟨some 16, none, .fa 0 (.t 15)⟩,
  ⟨some 17, none, .ld (.t 16)⟩,
  ⟨some 18, none, .mov (.t 1)⟩,
  ⟨some 19, none, .mov (.t 1)⟩,
  ⟨some 20, none, .conv .i64 (.t 19)⟩,
  ⟨some 21, none, .mov (.t 2)⟩,
  ⟨some 22, none, .bin .add (.t 20) (.t 21)⟩,
  ⟨some 23, none, .sl 1 (.t 17) (some (.t 18)) (some (.t 22)) none⟩,
  ⟨some 24, none, .app 1 1 (.t 13) (.t 23)⟩,
  ⟨some 6, none, .mov (.t 24)⟩,
  ⟨some 7, none, .mov (.c (.bool true))⟩])
  (.ret)
def c1_pianolaref2_Ram_Bytes : C :=
 .seq (.seq (.ops [⟨some 8, none, .mov (.t 0)⟩,
  ⟨some 9, none, .mov (.t 1)⟩,
  ⟨some 10, none, .mov (.t 2)⟩,
  ⟨some 11, none, .call n_pianolaref2_Ram_In [(.t 8), (.t 9), (.t 10)]⟩,
  ⟨some 12, none, .un .not (.t 11)⟩])
  (.cond (.t 12)
  (.seq (.ops [⟨some 6, none, .mov (.c (.slice none 0 0))⟩,
  ⟨some 7, none, .mov (.c (.bool false))⟩])
  (.ret))
  (.skip)))
  (c0_pianolaref2_Ram_Bytes)
def c_pianolaref2_Ram_Bytes : C :=
 .seq (.ops [⟨some 6, none, .mov (.c (.slice none 0 0))⟩,
  ⟨some 7, none, .mov (.c (.bool false))⟩])
  (c1_pianolaref2_Ram_Bytes)
def f_pianolaref2_Ram_Bytes : F := ⟨c_pianolaref2_Ram_Bytes, [.t 6, .t 7], some []⟩
theorem h_pianolaref2_Ram_Bytes : compF Try.prog (compAny Try.prog) n_pianolaref2_Ram_Bytes = some (f_pianolaref2_Ram_Bytes.body, f_pianolaref2_Ram_Bytes.res) := by kernel_rfl
/- (*pianola/pianolaref2.Ram).Put -/
def c0_pianolaref2_Ram_Put : C :=
 .seq (.ops [⟨some 13, none, .mov (.t 0)⟩,
  ⟨some 14, none, .nilc (.t 13)⟩,
  ⟨some 15, none, .fa 0 (.t 14)⟩,
  ⟨some 16, none, .ld (.t 15)⟩,
  ⟨some 17, none, .mov (.t 1)⟩,
  ⟨some 18, none, .sl 1 (.t 16) (some (.t 17)) none none⟩,
  ⟨some 19, none, .mov (.t 2)⟩,
  ⟨some 20, none, .cpy 1 (.t 18) (.t 19)⟩])
  (.seq (.ops [⟨some 21, none, .mov (.t 0)⟩,
  ⟨some 22, none, .mov (.t 1)⟩,
  ⟨some 23, none, .mov (.t 2)⟩,
  ⟨some 24, none, .len 1 (.t 23)⟩,
  ⟨some 25, none, .call n_pianolaref2_Ram_touch [(.t 21), (.t 22), (.t 24)]⟩])
  (.seq (.ops [⟨some 6, none, .mov (.c (.bool true))⟩])
  (.ret)))
def c1_pianolaref2_Ram_Put : C :=
 .seq (.seq (.ops [⟨some 7, none, .mov (.t 0)⟩,
  ⟨some 8, none, .mov (.t 1)⟩,
  ⟨some 9, none, .mov (.t 2)⟩,
  ⟨some 10, none, .len 1 (.t 9)⟩,
  ⟨some 11, none, .call n_pianolaref2_Ram_In [(.t 7), (.t 8), (.t 10)]⟩,
  ⟨some 12, none, .un .not (.t 11)⟩])
  (.cond (.t 12)
  (.seq (.ops [⟨some 6, none, .mov (.c (.bool false))⟩])
  (.ret))
  (.skip)))
  (c0_pianolaref2_Ram_Put)
def c_pianolaref2_Ram_Put : C :=
 .seq (.ops [⟨some 6, none, .mov (.c (.bool false))⟩])
  (c1_pianolaref2_Ram_Put)
def f_pianolaref2_Ram_Put : F := ⟨c_pianolaref2_Ram_Put, [.t 6], some []⟩
theorem h_pianolaref2_Ram_Put : compF Try.prog (compAny Try.prog) n_pianolaref2_Ram_Put = some (f_pianolaref2_Ram_Put.body, f_pianolaref2_Ram_Put.res) := by kernel_rfl
/- slices.rotateCmpFunc[pianola/input.Key] -/
def c0_slices_rotateCmpFunc_input_Key : C :=
 .seq (.ops [⟨some 24, none, .mov (.t 0)⟩,
  ⟨some 25, none, .mov (.t 2)⟩,
  ⟨some 26, none, .mov (.t 10)⟩,
  ⟨some 27, none, .bin .sub (.t 25) (.t 26)⟩,
  ⟨some 28, none, .mov (.t 2)⟩,
  ⟨some 29, none, .mov (.t 11)⟩,
  ⟨some 30, none, .mov (.t 4)⟩,
  ⟨some 31, none, .call n_slices_swapRangeCmpFunc_input_Key [(.t 24), (.t 27), (.t 28), (.t 29), (.t 30)]⟩])
  (.ops [⟨some 32, none, .mov (.t 10)⟩,
  ⟨some 33, none, .mov (.t 11)⟩,
  ⟨some 34, none, .bin .sub (.t 32) (.t 33)⟩,
  ⟨some 10, none, .mov (.t 34)⟩])
def c1_slices_rotateCmpFunc_input_Key : C :=
 .seq (.ops [⟨some 35, none, .mov (.t 0)⟩,
  ⟨some 36, none, .mov (.t 2)⟩,
  ⟨some 37, none, .mov (.t 10)⟩,
  ⟨some 38, none, .bin .sub (.t 36) (.t 37)⟩,
  ⟨some 39, none, .mov (.t 2)⟩,
  ⟨some 40, none, .mov (.t 11)⟩,
  ⟨some 41, none, .bin .add (.t 39) (.t 40)⟩,
  ⟨some 42, none, .mov (.t 10)⟩,
  ⟨some 43, none, .bin .sub (.t 41) (.t 42)⟩,
  ⟨some 44, none, .mov (.t 10)⟩,
  ⟨some 45, none, .mov (.t 4)⟩,
  ⟨some 46, none, .call n_slices_swapRangeCmpFunc_input_Key [(.t 35), (.t 38), (.t 43), (.t 44), (.t 45)]⟩])
  (.ops [⟨some 47, none, .mov (.t 11)⟩,
  ⟨some 48, none, .mov (.t 10)⟩,
  ⟨some 49, none, .bin .sub (.t 47) (.t 48)⟩,
  ⟨some 11, none, .mov (.t 49)⟩])
def c2_slices_rotateCmpFunc_input_Key : C :=
 .seq (.seq (.ops [⟨some 18, none, .mov (.t 10)⟩,
  ⟨some 19, none, .mov (.t 11)⟩,
  ⟨some 20, none, .bin .neq (.t 18) (.t 19)⟩])
  (.cond (.t 20)
  (.skip)
  (.exit 0)))
  (.block 1
  (.seq (.ops [⟨some 21, none, .mov (.t 10)⟩,
  ⟨some 22, none, .mov (.t 11)⟩,
  ⟨some 23, none, .bin .gtr (.t 21) (.t 22)⟩])
  (.cond (.t 23)
  (c0_slices_rotateCmpFunc_input_Key)
  (c1_slices_rotateCmpFunc_input_Key))))
def c3_slices_rotateCmpFunc_input_Key : C :=
 .ops [⟨some 50, none, .mov (.t 0)⟩,
  ⟨some 51, none, .mov (.t 2)⟩,
  ⟨some 52, none, .mov (.t 10)⟩,
  ⟨some 53, none, .bin .sub (.t 51) (.t 52)⟩,
  ⟨some 54, none, .mov (.t 2)⟩,
  ⟨some 55, none, .mov (.t 10)⟩,
  ⟨some 56, none, .mov (.t 4)⟩,
  ⟨some 57, none, .call n_slices_swapRangeCmpFunc_input_Key [(.t 50), (.t 53), (.t 54), (.t 55), (.t 56)]⟩]
def c_slices_rotateCmpFunc_input_Key : C :=
 .seq (.ops [⟨some 12, none, .mov (.t 2)⟩,
  ⟨some 13, none, .mov (.t 1)⟩,
  ⟨some 14, none, .bin .sub (.t 12) (.t 13)⟩,
  ⟨some 10, none, .mov (.t 14)⟩])
  (.seq (.ops [⟨some 15, none, .mov (.t 3)⟩,
  ⟨some 16, none, .mov (.t 2)⟩,
  ⟨some 17, none, .bin .sub (.t 15) (.t 16)⟩,
  ⟨some 11, none, .mov (.t 17)⟩])
  (.seq (.block 0
  (.loop c2_slices_rotateCmpFunc_input_Key))
  (c3_slices_rotateCmpFunc_input_Key)))
def f_slices_rotateCmpFunc_input_Key : F := ⟨c_slices_rotateCmpFunc_input_Key, [], some []⟩
theorem h_slices_rotateCmpFunc_input_Key : compF Try.prog (compAny Try.prog) n_slices_rotateCmpFunc_input_Key = some (f_slices_rotateCmpFunc_input_Key.body, f_slices_rotateCmpFunc_input_Key.res) := by kernel_rfl
/- slices.rotateCmpFunc[pianola/api.Event] -/
def c0_slices_rotateCmpFunc_api_Event : C :=
 .seq (.ops [⟨some 24, none, .mov (.t 0)⟩,
  ⟨some 25, none, .mov (.t 2)⟩,
  ⟨some 26, none, .mov (.t 10)⟩,
  ⟨some 27, none, .bin .sub (.t 25) (.t 26)⟩,
  ⟨some 28, none, .mov (.t 2)⟩,
  ⟨some 29, none, .mov (.t 11)⟩,
  ⟨some 30, none, .mov (.t 4)⟩,
  ⟨some 31, none, .call n_slices_swapRangeCmpFunc_api_Event [(.t 24), (.t 27), (.t 28), (.t 29), (.t 30)]⟩])
  (.ops [⟨some 32, none, .mov (.t 10)⟩,
  ⟨some 33, none, .mov (.t 11)⟩,
  ⟨some 34, none, .bin .sub (.t 32) (.t 33)⟩,
  ⟨some 10, none, .mov (.t 34)⟩])
def c1_slices_rotateCmpFunc_api_Event : C :=
 .seq (.ops [⟨some 35, none, .mov (.t 0)⟩,
  ⟨some 36, none, .mov (.t 2)⟩,
  ⟨some 37, none, .mov (.t 10)⟩,
  ⟨some 38, none, .bin .sub (.t 36) (.t 37)⟩,
  ⟨some 39, none, .mov (.t 2)⟩,
  ⟨some 40, none, .mov (.t 11)⟩,
  ⟨some 41, none, .bin .add (.t 39) (.t 40)⟩,
  ⟨some 42, none, .mov (.t 10)⟩,
  ⟨some 43, none, .bin .sub (.t 41) (.t 42)⟩,
  ⟨some 44, none, .mov (.t 10)⟩,
  ⟨some 45, none, .mov (.t 4)⟩,
  ⟨some 46, none, .call n_slices_swapRangeCmpFunc_api_Event [(.t 35), (.t 38), (.t 43), (.t 44), (.t 45)]⟩])
  (.ops [⟨some 47, none, .mov (.t 11)⟩,
  ⟨some 48, none, .mov (.t 10)⟩,
  ⟨some 49, none, .bin .sub (.t 47) (.t 48)⟩,
  ⟨some 11, none, .mov (.t 49)⟩])
def c2_slices_rotateCmpFunc_api_Event : C :=
 .seq (.seq (.ops [⟨some 18, none, .mov (.t 10)⟩,
  ⟨some 19, none, .mov (.t 11)⟩,
  ⟨some 20, none, .bin .neq (.t 18) (.t 19)⟩])
  (.cond (.t 20)
  (.skip)
  (.exit 0)))
  (.block 1
  (.seq (.ops [⟨some 21, none, .mov (.t 10)⟩,
  ⟨some 22, none, .mov (.t 11)⟩,
  ⟨some 23, none, .bin .gtr (.t 21) (.t 22)⟩])
  (.cond (.t 23)
  (c0_slices_rotateCmpFunc_api_Event)
  (c1_slices_rotateCmpFunc_api_Event))))
def c3_slices_rotateCmpFunc_api_Event : C :=
 .ops [⟨some 50, none, .mov (.t 0)⟩,
  ⟨some 51, none, .mov (.t 2)⟩,
  ⟨some 52, none, .mov (.t 10)⟩,
  ⟨some 53, none, .bin .sub (.t 51) (.t 52)⟩,
  ⟨some 54, none, .mov (.t 2)⟩,
  ⟨some 55, none, .mov (.t 10)⟩,
  ⟨some 56, none, .mov (.t 4)⟩,
  ⟨some 57, none, .call n_slices_swapRangeCmpFunc_api_Event [(.t 50), (.t 53), (.t 54), (.t 55), (.t 56)]⟩]
def c_slices_rotateCmpFunc_api_Event : C :=
 .seq (.ops [⟨some 12, none, .mov (.t 2)⟩,
  ⟨some 13, none, .mov (.t 1)⟩,
  ⟨some 14, none, .bin .sub (.t 12) (.t 13)⟩,
  ⟨some 10, none, .mov (.t 14)⟩])
  (.seq (.ops [⟨some 15, none, .mov (.t 3)⟩,
  ⟨some 16, none, .mov (.t 2)⟩,
  ⟨some 17, none, .bin .sub (.t 15) (.t 16)⟩,
  ⟨some 11, none, .mov (.t 17)⟩])
  (.seq (.block 0
  (.loop c2_slices_rotateCmpFunc_api_Event))
  (c3_slices_rotateCmpFunc_api_Event)))
def f_slices_rotateCmpFunc_api_Event : F := ⟨c_slices_rotateCmpFunc_api_Event, [], some []⟩
theorem h_slices_rotateCmpFunc_api_Event : compF Try.prog (compAny Try.prog) n_slices_rotateCmpFunc_api_Event = some (f_slices_rotateCmpFunc_api_Event.body, f_slices_rotateCmpFunc_api_Event.res) := by kernel_rfl
/- (*pianola/pianolaref2.Ram).touch -/
def c0_pianolaref2_Ram_touch : C :=
 .seq (.ops [⟨some 18, none, .mov (.t 0)⟩,
  ⟨some 19, none, .nilc (.t 18)⟩,
  ⟨some 20, none, .fa 1 (.t 19)⟩,
  ⟨some 21, none, .ld (.t 20)⟩,
  ⟨some 22, none, .mov (.t 7)⟩,
  ⟨some 23, none, .ia 1 (.t 21) (.t 22)⟩,
  ⟨some 24, none, .ld (.t 23)⟩])
  (.cond (.t 24)
  (.ops [⟨some 25, none, .mov (.t 0)⟩,
  ⟨some 26, none, .nilc (.t 25)⟩,
  ⟨some 27, none, .fa 2 (.t 26)⟩,
  ⟨some 28, none, .ld (.t 27)⟩,
  ⟨some 29, none, .mov (.t 7)⟩,
  ⟨some 30, none, .ia 1 (.t 28) (.t 29)⟩,
  ⟨none, none, .st (.t 30) (.c (.bool true))⟩])
  (.skip))
def c1_pianolaref2_Ram_touch : C :=
 .seq (.block 1
  (.seq (.ops [⟨some 13, none, .mov (.t 1)⟩,
  ⟨some 14, none, .conv .i64 (.t 13)⟩,
  ⟨some 15, none, .mov (.t 6)⟩,
  ⟨some 16, none, .bin .add (.t 14) (.t 15)⟩,
  ⟨some 17, none, .bin .quo (.t 16) (.c (.int .i64 1024))⟩,
  ⟨some 7, none, .mov (.t 17)⟩])
  (c0_pianolaref2_Ram_touch)))
  (.ops [⟨some 11, none, .mov (.t 6)⟩,
  ⟨some 12, none, .bin .add (.t 11) (.c (.int .i64 1))⟩,
  ⟨some 6, none, .mov (.t 12)⟩])
def c2_pianolaref2_Ram_touch : C :=
 .seq (.seq (.ops [⟨some 8, none, .mov (.t 6)⟩,
  ⟨some 9, none, .mov (.t 2)⟩,
  ⟨some 10, none, .bin .lss (.t 8) (.t 9)⟩])
  (.cond (.t 10)
  (.skip)
  (.exit 0)))
  (c1_pianolaref2_Ram_touch)
def c_pianolaref2_Ram_touch : C :=
 .seq (.ops [⟨some 6, none, .mov (.c (.int .i64 0))⟩])
  (.block 0
  (.loop c2_pianolaref2_Ram_touch))
def f_pianolaref2_Ram_touch : F := ⟨c_pianolaref2_Ram_touch, [], some []⟩
theorem h_pianolaref2_Ram_touch : compF Try.prog (compAny Try.prog) n_pianolaref2_Ram_touch = some (f_pianolaref2_Ram_touch.body, f_pianolaref2_Ram_touch.res) := by kernel_rfl
/- slices.swapRangeCmpFunc[pianola/input.Key] -/
def c0_slices_swapRangeCmpFunc_input_Key : C :=
 .seq (.block 1
  (.any 0 [.op 8 ⟨some 24, none, .mov (.t 0)⟩,
  .op 9 ⟨some 25, none, .mov (.t 2)⟩,
  .op 10 ⟨some 26, none, .mov (.t 10)⟩,
  .op 11 ⟨some 27, none, .bin .add (.t 25) (.t 26)⟩,
  .op 12 ⟨some 28, none, .ia 2 (.t 24) (.t 27)⟩,
  .op 13 ⟨some 29, none, .ldn 2 (.t 28)⟩,
  .op 14 ⟨some 30, none, .mov (.t 0)⟩,
  .op 15 ⟨some 31, none, .mov (.t 1)⟩,
  .op 16 ⟨some 32, none, .mov (.t 10)⟩,
  .op 17 ⟨some 33, none, .bin .add (.t 31) (.t 32)⟩,
  .op 18 ⟨some 34, none, .ia 2 (.t 30) (.t 33)⟩,
  .op 19 ⟨some 35, none, .ldn 2 (.t 34)⟩,
  .op 0 ⟨some 16, none, .mov (.t 0)⟩,
  .op 1 ⟨some 17, none, .mov (.t 1)⟩,
  .op 2 ⟨some 18, none, .mov (.t 10)⟩,
  .op 3 ⟨some 19, none, .bin .add (.t 17) (.t 18)⟩,
  .op 20 ⟨some 36, none, .ia 2 (.t 16) (.t 19)⟩,
  .op 21 ⟨none, none, .stn 2 (.t 36) (.t 29)⟩,
  .op 4 ⟨some 20, none, .mov (.t 0)⟩,
  .op 5 ⟨some 21, none, .mov (.t 2)⟩,
  .op 6 ⟨some 22, none, .mov (.t 10)⟩,
  .op 7 ⟨some 23, none, .bin .add (.t 21) (.t 22)⟩,
  .op 22 ⟨some 37, none, .ia 2 (.t 20) (.t 23)⟩,
  .op 23 ⟨none, none, .stn 2 (.t 37) (.t 35)⟩]))
  (.ops [⟨some 14, none, .mov (.t 10)⟩,
  ⟨some 15, none, .bin .add (.t 14) (.c (.int .i64 1))⟩,
  ⟨some 10, none, .mov (.t 15)⟩])
def c1_slices_swapRangeCmpFunc_input_Key : C :=
 .seq (.seq (.ops [⟨some 11, none, .mov (.t 10)⟩,
  ⟨some 12, none, .mov (.t 3)⟩,
  ⟨some 13, none, .bin .lss (.t 11) (.t 12)⟩])
  (.cond (.t 13)
  (.skip)
  (.exit 0)))
  (c0_slices_swapRangeCmpFunc_input_Key)
def c_slices_swapRangeCmpFunc_input_Key : C :=
 .seq (.ops [⟨some 10, none, .mov (.c (.int .i64 0))⟩])
  (.block 0
  (.loop c1_slices_swapRangeCmpFunc_input_Key))
def f_slices_swapRangeCmpFunc_input_Key : F := ⟨c_slices_swapRangeCmpFunc_input_Key, [], some []⟩
theorem h_slices_swapRangeCmpFunc_input_Key : compF Try.prog (compAny Try.prog) n_slices_swapRangeCmpFunc_input_Key = some (f_slices_swapRangeCmpFunc_input_Key.body, f_slices_swapRangeCmpFunc_input_Key.res) := by kernel_rfl
end Go.Proofs.Ytppgoobhlcdbbaa.Cd
