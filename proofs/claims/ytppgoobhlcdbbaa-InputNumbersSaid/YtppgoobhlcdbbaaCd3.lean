/- The code of the functions that are reached, as the interpreter reads it. -/
import Derived.Test.YtppgoobhlcdbbaaCd2
set_option maxRecDepth 100000
set_option linter.defProp false
namespace Go.Proofs.Ytppgoobhlcdbbaa.Cd
open Go Go.Dx
/- slices.SortStableFunc[[]pianola/api.Event,pianola/api.Event] -/
def c_slices_SortStableFunc_api_Event_api_Event : C :=
 .ops [⟨some 4, none, .mov (.t 0)⟩,
  ⟨some 5, none, .mov (.t 0)⟩,
  ⟨some 6, none, .len 1 (.t 5)⟩,
  ⟨some 7, none, .mov (.t 1)⟩,
  ⟨some 8, none, .call n_slices_stableCmpFunc_api_Event [(.t 4), (.t 6), (.t 7)]⟩]
def f_slices_SortStableFunc_api_Event_api_Event : F := ⟨c_slices_SortStableFunc_api_Event_api_Event, [], some []⟩
theorem h_slices_SortStableFunc_api_Event_api_Event : compF Try.prog (compAny Try.prog) n_slices_SortStableFunc_api_Event_api_Event = some (f_slices_SortStableFunc_api_Event_api_Event.body, f_slices_SortStableFunc_api_Event_api_Event.res) := by kernel_rfl
/- (*pianola/wheel.Wheel).Arm$1 -/
def c_wheel_Wheel_Arm_1 : C :=
 .seq (.ops [⟨some 2, none, .box (.t 0)⟩,
  ⟨some 3, none, .box (.t 1)⟩,
  ⟨some 4, none, .mov (.c (.int .i64 0))⟩])
  (.seq (.ops [⟨some 5, none, .fa 0 (.t 2)⟩,
  ⟨some 6, none, .ld (.t 5)⟩,
  ⟨some 7, none, .fa 0 (.t 3)⟩,
  ⟨some 8, none, .ld (.t 7)⟩,
  ⟨some 9, none, .call n_cmp_Compare_int64 [(.t 6), (.t 8)]⟩,
  ⟨some 4, none, .mov (.t 9)⟩])
  (.ret))
def f_wheel_Wheel_Arm_1 : F := ⟨c_wheel_Wheel_Arm_1, [.t 4], some []⟩
theorem h_wheel_Wheel_Arm_1 : compF Try.prog (compAny Try.prog) n_wheel_Wheel_Arm_1 = some (f_wheel_Wheel_Arm_1.body, f_wheel_Wheel_Arm_1.res) := by kernel_rfl
/- (*pianola/wheel.Wheel).Next -/
def c0_wheel_Wheel_Next : C :=
 .seq (.ops [⟨some 10, none, .mov (.t 0)⟩,
  ⟨some 11, none, .nilc (.t 10)⟩,
  ⟨some 12, none, .fa 0 (.t 11)⟩,
  ⟨some 13, none, .ld (.t 12)⟩,
  ⟨some 14, none, .ia 3 (.t 13) (.c (.int .i64 0))⟩,
  ⟨some 15, none, .fa 0 (.t 14)⟩,
  ⟨some 16, none, .ld (.t 15)⟩,
  ⟨some 2, none, .mov (.t 16)⟩,
  ⟨some 3, none, .mov (.c (.bool true))⟩])
  (.ret)
def c1_wheel_Wheel_Next : C :=
 .seq (.seq (.ops [⟨some 4, none, .mov (.t 0)⟩,
  ⟨some 5, none, .nilc (.t 4)⟩,
  ⟨some 6, none, .fa 0 (.t 5)⟩,
  ⟨some 7, none, .ld (.t 6)⟩,
  ⟨some 8, none, .len 1 (.t 7)⟩,
  ⟨some 9, none, .bin .eql (.t 8) (.c (.int .i64 0))⟩])
  (.cond (.t 9)
  (.seq (.ops [⟨some 2, none, .mov (.c (.int .i64 0))⟩,
  ⟨some 3, none, .mov (.c (.bool false))⟩])
  (.ret))
  (.skip)))
  (c0_wheel_Wheel_Next)
def c_wheel_Wheel_Next : C :=
 .seq (.ops [⟨some 2, none, .mov (.c (.int .i64 0))⟩,
  ⟨some 3, none, .mov (.c (.bool false))⟩])
  (c1_wheel_Wheel_Next)
def f_wheel_Wheel_Next : F := ⟨c_wheel_Wheel_Next, [.t 2, .t 3], some []⟩
theorem h_wheel_Wheel_Next : compF Try.prog (compAny Try.prog) n_wheel_Wheel_Next = some (f_wheel_Wheel_Next.body, f_wheel_Wheel_Next.res) := by kernel_rfl
/- slices.Delete[[]pianola/api.Event,pianola/api.Event] -/
def c0_slices_Delete_api_Event_api_Event : C :=
 .seq (.ops [⟨some 27, none, .mov (.t 0)⟩,
  ⟨some 28, none, .mov (.t 0)⟩,
  ⟨some 29, none, .len 1 (.t 28)⟩,
  ⟨some 30, none, .mov (.t 7)⟩,
  ⟨some 31, none, .sl 3 (.t 27) (some (.t 29)) (some (.t 30)) none⟩,
  ⟨none, none, .clr [(.int .i64 0), (.int .i64 0), (.int .i64 0)] (.t 31)⟩])
  (.seq (.ops [⟨some 32, none, .mov (.t 0)⟩,
  ⟨some 6, none, .mov (.t 32)⟩])
  (.ret))
def c1_slices_Delete_api_Event_api_Event : C :=
 .seq (.any 0 [.op 0 ⟨some 20, none, .mov (.t 0)⟩,
  .op 1 ⟨some 21, none, .mov (.t 1)⟩,
  .op 2 ⟨some 22, none, .sl 3 (.t 20) none (some (.t 21)) none⟩,
  .op 3 ⟨some 23, none, .mov (.t 0)⟩,
  .op 4 ⟨some 24, none, .mov (.t 2)⟩,
  .op 5 ⟨some 25, none, .sl 3 (.t 23) (some (.t 24)) none none⟩,
  .op 6 ⟨some 26, none, .app 3 24 (.t 22) (.t 25)⟩,
  .op 7 ⟨some 0, none, .mov (.t 26)⟩])
  (c0_slices_Delete_api_Event_api_Event)
def c2_slices_Delete_api_Event_api_Event : C :=
 .seq (.seq (.ops [⟨some 14, none, .mov (.t 1)⟩,
  ⟨some 15, none, .mov (.t 2)⟩,
  ⟨some 16, none, .bin .eql (.t 14) (.t 15)⟩])
  (.cond (.t 16)
  (.seq (.ops [⟨some 17, none, .mov (.t 0)⟩,
  ⟨some 6, none, .mov (.t 17)⟩])
  (.ret))
  (.skip)))
  (.seq (.ops [⟨some 18, none, .mov (.t 0)⟩,
  ⟨some 19, none, .len 1 (.t 18)⟩,
  ⟨some 7, none, .mov (.t 19)⟩])
  (c1_slices_Delete_api_Event_api_Event))
def c_slices_Delete_api_Event_api_Event : C :=
 .seq (.ops [⟨some 6, none, .mov (.c (.slice none 0 0))⟩])
  (.seq (.ops [⟨some 8, none, .mov (.t 0)⟩,
  ⟨some 9, none, .mov (.t 1)⟩,
  ⟨some 10, none, .mov (.t 2)⟩,
  ⟨some 11, none, .mov (.t 0)⟩,
  ⟨some 12, none, .len 1 (.t 11)⟩,
  ⟨some 13, none, .sl 3 (.t 8) (some (.t 9)) (some (.t 10)) (some (.t 12))⟩])
  (c2_slices_Delete_api_Event_api_Event))
def f_slices_Delete_api_Event_api_Event : F := ⟨c_slices_Delete_api_Event_api_Event, [.t 6], some []⟩
theorem h_slices_Delete_api_Event_api_Event : compF Try.prog (compAny Try.prog) n_slices_Delete_api_Event_api_Event = some (f_slices_Delete_api_Event_api_Event.body, f_slices_Delete_api_Event_api_Event.res) := by kernel_rfl
/- slices.Clone[[]pianola/api.Event,pianola/api.Event] -/
def c0_slices_Clone_api_Event_api_Event : C :=
 .seq (.seq (.ops [⟨some 3, none, .mov (.t 0)⟩,
  ⟨some 4, none, .eqn 1 false (.t 3)⟩])
  (.cond (.t 4)
  (.seq (.ops [⟨some 2, none, .mov (.c (.slice none 0 0))⟩])
  (.ret))
  (.skip)))
  (.seq (.ops [⟨some 5, none, .bsl 0 [] []⟩,
  ⟨some 6, none, .mov (.t 0)⟩,
  ⟨some 7, none, .app 3 24 (.t 5) (.t 6)⟩,
  ⟨some 2, none, .mov (.t 7)⟩])
  (.ret))
def c_slices_Clone_api_Event_api_Event : C :=
 .seq (.ops [⟨some 2, none, .mov (.c (.slice none 0 0))⟩])
  (c0_slices_Clone_api_Event_api_Event)
def f_slices_Clone_api_Event_api_Event : F := ⟨c_slices_Clone_api_Event_api_Event, [.t 2], some []⟩
theorem h_slices_Clone_api_Event_api_Event : compF Try.prog (compAny Try.prog) n_slices_Clone_api_Event_api_Event = some (f_slices_Clone_api_Event_api_Event.body, f_slices_Clone_api_Event_api_Event.res) := by kernel_rfl
/- (*pianola/wheel.Wheel).find -/
def c_wheel_Wheel_find : C :=
 .seq (.ops [⟨some 3, none, .box (.t 1)⟩,
  ⟨some 4, none, .mov (.c (.int .i64 0))⟩])
  (.seq (.ops [⟨some 5, none, .mov (.t 0)⟩,
  ⟨some 6, none, .nilc (.t 5)⟩,
  ⟨some 7, none, .fa 0 (.t 6)⟩,
  ⟨some 8, none, .ld (.t 7)⟩,
  ⟨some 9, none, .mkf n_wheel_Wheel_find_1 [(.t 3)]⟩,
  ⟨some 10, none, .call n_slices_IndexFunc_api_Event_api_Event [(.t 8), (.t 9)]⟩,
  ⟨some 4, none, .mov (.t 10)⟩])
  (.ret))
def f_wheel_Wheel_find : F := ⟨c_wheel_Wheel_find, [.t 4], some []⟩
theorem h_wheel_Wheel_find : compF Try.prog (compAny Try.prog) n_wheel_Wheel_find = some (f_wheel_Wheel_find.body, f_wheel_Wheel_find.res) := by kernel_rfl
/- (*pianola/pianolaref9.Wheel).Cancel -/
def c0_pianolaref9_Wheel_Cancel : C :=
 .seq (.any 1 [.op 2 ⟨some 27, none, .mov (.t 0)⟩,
  .op 3 ⟨some 28, none, .nilc (.t 27)⟩,
  .op 4 ⟨some 29, none, .fa 0 (.t 28)⟩,
  .op 5 ⟨some 30, none, .ld (.t 29)⟩,
  .op 9 ⟨some 34, none, .mov (.t 0)⟩,
  .op 10 ⟨some 35, none, .nilc (.t 34)⟩,
  .op 11 ⟨some 36, none, .fa 0 (.t 35)⟩,
  .op 12 ⟨some 37, none, .ld (.t 36)⟩,
  .al 1 0 ⟨some 26, none, .bsl 0 [] []⟩,
  .op 6 ⟨some 31, none, .mov (.t 5)⟩,
  .op 7 ⟨some 32, none, .sl 3 (.t 30) none (some (.t 31)) none⟩,
  .op 8 ⟨some 33, none, .app 3 24 (.t 26) (.t 32)⟩,
  .re 12 ⟨some 37, none, .ld (.t 36)⟩,
  .op 13 ⟨some 38, none, .mov (.t 5)⟩,
  .op 14 ⟨some 39, none, .bin .add (.t 38) (.c (.int .i64 1))⟩,
  .op 15 ⟨some 40, none, .sl 3 (.t 37) (some (.t 39)) none none⟩,
  .op 16 ⟨some 41, none, .app 3 24 (.t 33) (.t 40)⟩,
  .op 0 ⟨some 25, none, .mov (.t 0)⟩,
  .op 17 ⟨some 42, none, .nilc (.t 25)⟩,
  .op 18 ⟨some 43, none, .fa 0 (.t 42)⟩,
  .op 19 ⟨none, none, .st (.t 43) (.t 41)⟩])
  (.seq (.ops [⟨some 4, none, .mov (.c (.bool true))⟩])
  (.ret))
def c1_pianolaref9_Wheel_Cancel : C :=
 .seq (.block 1
  (.seq (.ops [⟨some 15, none, .mov (.t 0)⟩,
  ⟨some 16, none, .nilc (.t 15)⟩,
  ⟨some 17, none, .fa 0 (.t 16)⟩,
  ⟨some 18, none, .ld (.t 17)⟩,
  ⟨some 19, none, .mov (.t 5)⟩,
  ⟨some 20, none, .ia 3 (.t 18) (.t 19)⟩,
  ⟨some 21, none, .fa 1 (.t 20)⟩,
  ⟨some 22, none, .ld (.t 21)⟩,
  ⟨some 23, none, .mov (.t 1)⟩,
  ⟨some 24, none, .bin .eql (.t 22) (.t 23)⟩])
  (.cond (.t 24)
  (c0_pianolaref9_Wheel_Cancel)
  (.skip))))
  (.ops [⟨some 13, none, .mov (.t 5)⟩,
  ⟨some 14, none, .bin .add (.t 13) (.c (.int .i64 1))⟩,
  ⟨some 5, none, .mov (.t 14)⟩])
def c2_pianolaref9_Wheel_Cancel : C :=
 .seq (.seq (.ops [⟨some 6, none, .mov (.t 5)⟩,
  ⟨some 7, none, .mov (.t 0)⟩,
  ⟨some 8, none, .nilc (.t 7)⟩,
  ⟨some 9, none, .fa 0 (.t 8)⟩,
  ⟨some 10, none, .ld (.t 9)⟩,
  ⟨some 11, none, .len 1 (.t 10)⟩,
  ⟨some 12, none, .bin .lss (.t 6) (.t 11)⟩])
  (.cond (.t 12)
  (.skip)
  (.exit 0)))
  (c1_pianolaref9_Wheel_Cancel)
def c_pianolaref9_Wheel_Cancel : C :=
 .seq (.ops [⟨some 4, none, .mov (.c (.bool false))⟩])
  (.seq (.seq (.ops [⟨some 5, none, .mov (.c (.int .i64 0))⟩])
  (.block 0
  (.loop c2_pianolaref9_Wheel_Cancel)))
  (.seq (.ops [⟨some 4, none, .mov (.c (.bool false))⟩])
  (.ret)))
def f_pianolaref9_Wheel_Cancel : F := ⟨c_pianolaref9_Wheel_Cancel, [.t 4], some []⟩
theorem h_pianolaref9_Wheel_Cancel : compF Try.prog (compAny Try.prog) n_pianolaref9_Wheel_Cancel = some (f_pianolaref9_Wheel_Cancel.body, f_pianolaref9_Wheel_Cancel.res) := by kernel_rfl
/- (*pianola/pianolaref9.Wheel).Take -/
def c0_pianolaref9_Wheel_Take : C :=
 .seq (.ops [⟨some 31, none, .mov (.t 0)⟩,
  ⟨some 32, none, .bsl 0 [] []⟩,
  ⟨some 33, none, .mov (.t 0)⟩,
  ⟨some 34, none, .nilc (.t 33)⟩,
  ⟨some 35, none, .fa 0 (.t 34)⟩,
  ⟨some 36, none, .ld (.t 35)⟩,
  ⟨some 37, none, .sl 3 (.t 36) (some (.c (.int .i64 1))) none none⟩,
  ⟨some 38, none, .app 3 24 (.t 32) (.t 37)⟩,
  ⟨some 39, none, .nilc (.t 31)⟩,
  ⟨some 40, none, .fa 0 (.t 39)⟩,
  ⟨none, none, .st (.t 40) (.t 38)⟩])
  (.seq (.ops [⟨some 41, none, .ldn 3 (.t 6)⟩,
  ⟨none, none, .stn 3 (.t 4) (.t 41)⟩,
  ⟨some 5, none, .mov (.c (.bool true))⟩])
  (.ret))
def c1_pianolaref9_Wheel_Take : C :=
 .seq (.ops [⟨some 25, none, .mov (.t 0)⟩,
  ⟨some 26, none, .nilc (.t 25)⟩,
  ⟨some 27, none, .fa 0 (.t 26)⟩,
  ⟨some 28, none, .ld (.t 27)⟩,
  ⟨some 29, none, .ia 3 (.t 28) (.c (.int .i64 0))⟩,
  ⟨some 30, none, .ldn 3 (.t 29)⟩,
  ⟨some 6, none, .new [(.int .i64 0), (.int .i64 0), (.int .i64 0)]⟩,
  ⟨none, none, .stn 3 (.t 6) (.t 30)⟩])
  (c0_pianolaref9_Wheel_Take)
def c2_pianolaref9_Wheel_Take : C :=
 .seq (.seq (.ops [⟨some 7, none, .mov (.t 0)⟩,
  ⟨some 8, none, .nilc (.t 7)⟩,
  ⟨some 9, none, .fa 0 (.t 8)⟩,
  ⟨some 10, none, .ld (.t 9)⟩,
  ⟨some 11, none, .len 1 (.t 10)⟩,
  ⟨some 12, none, .bin .eql (.t 11) (.c (.int .i64 0))⟩,
  ⟨some 13, none, .mov (.t 12)⟩,
  ⟨some 14, some (13, false), .mov (.t 0)⟩,
  ⟨some 15, some (13, false), .nilc (.t 14)⟩,
  ⟨some 16, some (13, false), .fa 0 (.t 15)⟩,
  ⟨some 17, some (13, false), .ld (.t 16)⟩,
  ⟨some 18, some (13, false), .ia 3 (.t 17) (.c (.int .i64 0))⟩,
  ⟨some 19, some (13, false), .fa 0 (.t 18)⟩,
  ⟨some 20, some (13, false), .ld (.t 19)⟩,
  ⟨some 21, some (13, false), .mov (.t 1)⟩,
  ⟨some 22, some (13, false), .bin .gtr (.t 20) (.t 21)⟩,
  ⟨some 23, none, .pick (.t 13) (.c (.bool true)) (.t 22)⟩])
  (.cond (.t 23)
  (.seq (.ops [⟨some 24, none, .build [(.int .i64 0), (.int .i64 0), (.int .i64 0)] []⟩,
  ⟨none, none, .stn 3 (.t 4) (.t 24)⟩,
  ⟨some 5, none, .mov (.c (.bool false))⟩])
  (.ret))
  (.skip)))
  (c1_pianolaref9_Wheel_Take)
def c_pianolaref9_Wheel_Take : C :=
 .seq (.ops [⟨some 4, none, .new [(.int .i64 0), (.int .i64 0), (.int .i64 0)]⟩,
  ⟨some 5, none, .mov (.c (.bool false))⟩])
  (c2_pianolaref9_Wheel_Take)
def f_pianolaref9_Wheel_Take : F := ⟨c_pianolaref9_Wheel_Take, [.ldn 3 4, .t 5], some []⟩
theorem h_pianolaref9_Wheel_Take : compF Try.prog (compAny Try.prog) n_pianolaref9_Wheel_Take = some (f_pianolaref9_Wheel_Take.body, f_pianolaref9_Wheel_Take.res) := by kernel_rfl
/- (*pianola/pianolaref9.Wheel).Arm -/
def c0_pianolaref9_Wheel_Arm : C :=
 .seq (.seq (.ops [⟨some 21, none, .mov (.t 7)⟩,
  ⟨some 22, none, .mov (.t 0)⟩,
  ⟨some 23, none, .nilc (.t 22)⟩,
  ⟨some 24, none, .fa 0 (.t 23)⟩,
  ⟨some 25, none, .ld (.t 24)⟩,
  ⟨some 26, none, .len 1 (.t 25)⟩,
  ⟨some 27, none, .bin .lss (.t 21) (.t 26)⟩,
  ⟨some 28, none, .mov (.t 27)⟩,
  ⟨some 29, some (28, true), .mov (.t 0)⟩,
  ⟨some 30, some (28, true), .nilc (.t 29)⟩,
  ⟨some 31, some (28, true), .fa 0 (.t 30)⟩,
  ⟨some 32, some (28, true), .ld (.t 31)⟩,
  ⟨some 33, some (28, true), .mov (.t 7)⟩,
  ⟨some 34, some (28, true), .ia 3 (.t 32) (.t 33)⟩,
  ⟨some 35, some (28, true), .fa 0 (.t 34)⟩,
  ⟨some 36, some (28, true), .ld (.t 35)⟩,
  ⟨some 37, some (28, true), .mov (.t 2)⟩,
  ⟨some 38, some (28, true), .bin .leq (.t 36) (.t 37)⟩,
  ⟨some 39, none, .pick (.t 28) (.t 38) (.c (.bool false))⟩])
  (.cond (.t 39)
  (.skip)
  (.exit 0)))
  (.block 1
  (.ops [⟨some 40, none, .mov (.t 7)⟩,
  ⟨some 41, none, .bin .add (.t 40) (.c (.int .i64 1))⟩,
  ⟨some 7, none, .mov (.t 41)⟩]))
def c1_pianolaref9_Wheel_Arm : C :=
 .seq (.ops [⟨some 69, none, .mov (.t 0)⟩,
  ⟨some 70, none, .nilc (.t 69)⟩,
  ⟨some 71, none, .fa 1 (.t 70)⟩,
  ⟨some 72, none, .ld (.t 71)⟩,
  ⟨some 73, none, .bin .add (.t 72) (.c (.int .i64 1))⟩,
  ⟨some 74, none, .nilc (.t 69)⟩,
  ⟨some 75, none, .fa 1 (.t 74)⟩,
  ⟨none, none, .st (.t 75) (.t 73)⟩])
  (.seq (.ops [⟨some 6, none, .mov (.c (.bool true))⟩])
  (.ret))
def c2_pianolaref9_Wheel_Arm : C :=
 .seq (.any 2 [.op 2 ⟨some 44, none, .mov (.t 0)⟩,
  .op 3 ⟨some 45, none, .nilc (.t 44)⟩,
  .op 4 ⟨some 46, none, .fa 0 (.t 45)⟩,
  .op 5 ⟨some 47, none, .ld (.t 46)⟩,
  .op 11 ⟨some 53, none, .mov (.t 0)⟩,
  .op 12 ⟨some 54, none, .nilc (.t 53)⟩,
  .op 13 ⟨some 55, none, .fa 1 (.t 54)⟩,
  .op 14 ⟨some 56, none, .ld (.t 55)⟩,
  .op 18 ⟨some 60, none, .mov (.t 0)⟩,
  .op 19 ⟨some 61, none, .nilc (.t 60)⟩,
  .op 20 ⟨some 62, none, .fa 0 (.t 61)⟩,
  .op 21 ⟨some 63, none, .ld (.t 62)⟩,
  .al 1 0 ⟨some 43, none, .bsl 0 [] []⟩,
  .op 6 ⟨some 48, none, .mov (.t 7)⟩,
  .op 7 ⟨some 49, none, .sl 3 (.t 47) none (some (.t 48)) none⟩,
  .op 8 ⟨some 50, none, .app 3 24 (.t 43) (.t 49)⟩,
  .re 14 ⟨some 56, none, .ld (.t 55)⟩,
  .re 21 ⟨some 63, none, .ld (.t 62)⟩,
  .op 9 ⟨some 51, none, .mov (.t 2)⟩,
  .op 10 ⟨some 52, none, .mov (.t 1)⟩,
  .op 15 ⟨some 57, none, .build [(.int .i64 0), (.int .i64 0), (.int .i64 0)] [(0, 1, (.t 51)), (1, 1, (.t 52)), (2, 1, (.t 56))]⟩,
  .al 16 1 ⟨some 58, none, .bsl 1 [(.int .i64 0), (.int .i64 0), (.int .i64 0)] [(0, 3, (.t 57))]⟩,
  .op 17 ⟨some 59, none, .app 3 24 (.t 50) (.t 58)⟩,
  .re 21 ⟨some 63, none, .ld (.t 62)⟩,
  .op 22 ⟨some 64, none, .mov (.t 7)⟩,
  .op 23 ⟨some 65, none, .sl 3 (.t 63) (some (.t 64)) none none⟩,
  .op 24 ⟨some 66, none, .app 3 24 (.t 59) (.t 65)⟩,
  .op 0 ⟨some 42, none, .mov (.t 0)⟩,
  .op 25 ⟨some 67, none, .nilc (.t 42)⟩,
  .op 26 ⟨some 68, none, .fa 0 (.t 67)⟩,
  .op 27 ⟨none, none, .st (.t 68) (.t 66)⟩])
  (c1_pianolaref9_Wheel_Arm)
def c3_pianolaref9_Wheel_Arm : C :=
 .seq (.seq (.ops [⟨some 8, none, .mov (.t 1)⟩,
  ⟨some 9, none, .bin .lss (.t 8) (.c (.int .i64 0))⟩,
  ⟨some 10, none, .mov (.t 9)⟩,
  ⟨some 11, some (10, false), .mov (.t 1)⟩,
  ⟨some 12, some (10, false), .bin .geq (.t 11) (.c (.int .i64 16))⟩,
  ⟨some 13, none, .pick (.t 10) (.c (.bool true)) (.t 12)⟩,
  ⟨some 14, none, .mov (.t 13)⟩,
  ⟨some 15, some (14, false), .mov (.t 2)⟩,
  ⟨some 16, some (14, false), .bin .lss (.t 15) (.c (.int .i64 0))⟩,
  ⟨some 17, none, .pick (.t 14) (.c (.bool true)) (.t 16)⟩])
  (.cond (.t 17)
  (.seq (.ops [⟨some 6, none, .mov (.c (.bool false))⟩])
  (.ret))
  (.skip)))
  (.seq (.ops [⟨some 18, none, .mov (.t 0)⟩,
  ⟨some 19, none, .mov (.t 1)⟩,
  ⟨some 20, none, .call n_pianolaref9_Wheel_Cancel [(.t 18), (.t 19)]⟩])
  (.seq (.ops [⟨some 7, none, .mov (.c (.int .i64 0))⟩])
  (.seq (.block 0
  (.loop c0_pianolaref9_Wheel_Arm))
  (c2_pianolaref9_Wheel_Arm))))
def c_pianolaref9_Wheel_Arm : C :=
 .seq (.ops [⟨some 6, none, .mov (.c (.bool false))⟩])
  (c3_pianolaref9_Wheel_Arm)
def f_pianolaref9_Wheel_Arm : F := ⟨c_pianolaref9_Wheel_Arm, [.t 6], some []⟩
theorem h_pianolaref9_Wheel_Arm : compF Try.prog (compAny Try.prog) n_pianolaref9_Wheel_Arm = some (f_pianolaref9_Wheel_Arm.body, f_pianolaref9_Wheel_Arm.res) := by kernel_rfl
/- (*pianola/wheel.Wheel).At -/
def c0_wheel_Wheel_At : C :=
 .seq (.ops [⟨some 12, none, .mov (.t 0)⟩,
  ⟨some 13, none, .nilc (.t 12)⟩,
  ⟨some 14, none, .fa 0 (.t 13)⟩,
  ⟨some 15, none, .ld (.t 14)⟩,
  ⟨some 16, none, .mov (.t 6)⟩,
  ⟨some 17, none, .ia 3 (.t 15) (.t 16)⟩,
  ⟨some 18, none, .fa 0 (.t 17)⟩,
  ⟨some 19, none, .ld (.t 18)⟩,
  ⟨some 4, none, .mov (.t 19)⟩,
  ⟨some 5, none, .mov (.c (.bool true))⟩])
  (.ret)
def c1_wheel_Wheel_At : C :=
 .seq (.ops [⟨some 7, none, .mov (.t 0)⟩,
  ⟨some 8, none, .mov (.t 1)⟩,
  ⟨some 9, none, .call n_wheel_Wheel_find [(.t 7), (.t 8)]⟩,
  ⟨some 6, none, .mov (.t 9)⟩])
  (.seq (.seq (.ops [⟨some 10, none, .mov (.t 6)⟩,
  ⟨some 11, none, .bin .lss (.t 10) (.c (.int .i64 0))⟩])
  (.cond (.t 11)
  (.seq (.ops [⟨some 4, none, .mov (.c (.int .i64 0))⟩,
  ⟨some 5, none, .mov (.c (.bool false))⟩])
  (.ret))
  (.skip)))
  (c0_wheel_Wheel_At))
def c_wheel_Wheel_At : C :=
 .seq (.ops [⟨some 4, none, .mov (.c (.int .i64 0))⟩,
  ⟨some 5, none, .mov (.c (.bool false))⟩])
  (c1_wheel_Wheel_At)
def f_wheel_Wheel_At : F := ⟨c_wheel_Wheel_At, [.t 4, .t 5], some []⟩
theorem h_wheel_Wheel_At : compF Try.prog (compAny Try.prog) n_wheel_Wheel_At = some (f_wheel_Wheel_At.body, f_wheel_Wheel_At.res) := by kernel_rfl
/- (*pianola/pianolaref9.Wheel).At -/
def c0_pianolaref9_Wheel_At : C :=
 .seq (.ops [⟨some 26, none, .mov (.t 0)⟩,
  ⟨some 27, none, .nilc (.t 26)⟩,
  ⟨some 28, none, .fa 0 (.t 27)⟩,
  ⟨some 29, none, .ld (.t 28)⟩,
  ⟨some 30, none, .mov (.t 6)⟩,
  ⟨some 31, none, .ia 3 (.t 29) (.t 30)⟩,
  ⟨some 32, none, .fa 0 (.t 31)⟩,
  ⟨some 33, none, .ld (.t 32)⟩,
  ⟨some 4, none, .mov (.t 33)⟩,
  ⟨some 5, none, .mov (.c (.bool true))⟩])
  (.ret)
def c1_pianolaref9_Wheel_At : C :=
 .seq (.block 1
  (.seq (.ops [⟨some 16, none, .mov (.t 0)⟩,
  ⟨some 17, none, .nilc (.t 16)⟩,
  ⟨some 18, none, .fa 0 (.t 17)⟩,
  ⟨some 19, none, .ld (.t 18)⟩,
  ⟨some 20, none, .mov (.t 6)⟩,
  ⟨some 21, none, .ia 3 (.t 19) (.t 20)⟩,
  ⟨some 22, none, .fa 1 (.t 21)⟩,
  ⟨some 23, none, .ld (.t 22)⟩,
  ⟨some 24, none, .mov (.t 1)⟩,
  ⟨some 25, none, .bin .eql (.t 23) (.t 24)⟩])
  (.cond (.t 25)
  (c0_pianolaref9_Wheel_At)
  (.skip))))
  (.ops [⟨some 14, none, .mov (.t 6)⟩,
  ⟨some 15, none, .bin .add (.t 14) (.c (.int .i64 1))⟩,
  ⟨some 6, none, .mov (.t 15)⟩])
def c2_pianolaref9_Wheel_At : C :=
 .seq (.seq (.ops [⟨some 7, none, .mov (.t 6)⟩,
  ⟨some 8, none, .mov (.t 0)⟩,
  ⟨some 9, none, .nilc (.t 8)⟩,
  ⟨some 10, none, .fa 0 (.t 9)⟩,
  ⟨some 11, none, .ld (.t 10)⟩,
  ⟨some 12, none, .len 1 (.t 11)⟩,
  ⟨some 13, none, .bin .lss (.t 7) (.t 12)⟩])
  (.cond (.t 13)
  (.skip)
  (.exit 0)))
  (c1_pianolaref9_Wheel_At)
def c_pianolaref9_Wheel_At : C :=
 .seq (.ops [⟨some 4, none, .mov (.c (.int .i64 0))⟩,
  ⟨some 5, none, .mov (.c (.bool false))⟩])
  (.seq (.seq (.ops [⟨some 6, none, .mov (.c (.int .i64 0))⟩])
  (.block 0
  (.loop c2_pianolaref9_Wheel_At)))
  (.seq (.ops [⟨some 4, none, .mov (.c (.int .i64 0))⟩,
  ⟨some 5, none, .mov (.c (.bool false))⟩])
  (.ret)))
def f_pianolaref9_Wheel_At : F := ⟨c_pianolaref9_Wheel_At, [.t 4, .t 5], some []⟩
theorem h_pianolaref9_Wheel_At : compF Try.prog (compAny Try.prog) n_pianolaref9_Wheel_At = some (f_pianolaref9_Wheel_At.body, f_pianolaref9_Wheel_At.res) := by kernel_rfl
/- pianola/pianolabook.Same[pianola/api.Event] -/
def c0_pianolabook_Same_api_Event : C :=
 .seq (.block 1
  (.seq (.any 0 [.op 0 ⟨some 17, none, .mov (.t 0)⟩,
  .op 1 ⟨some 18, none, .mov (.t 5)⟩,
  .op 2 ⟨some 19, none, .ia 3 (.t 17) (.t 18)⟩,
  .op 3 ⟨some 20, none, .ldn 3 (.t 19)⟩,
  .op 4 ⟨some 21, none, .mov (.t 1)⟩,
  .op 5 ⟨some 22, none, .mov (.t 5)⟩,
  .op 6 ⟨some 23, none, .ia 3 (.t 21) (.t 22)⟩,
  .op 7 ⟨some 24, none, .ldn 3 (.t 23)⟩,
  .op 8 ⟨some 25, none, .eqt true (.agg [(0, 1, false, (.int .i64)), (1, 1, false, (.int .i64)), (2, 1, false, (.int .i64))]) (.t 20) (.t 24)⟩])
  (.cond (.t 25)
  (.seq (.ops [⟨some 4, none, .mov (.c (.bool false))⟩])
  (.ret))
  (.skip))))
  (.ops [⟨some 15, none, .mov (.t 5)⟩,
  ⟨some 16, none, .bin .add (.t 15) (.c (.int .i64 1))⟩,
  ⟨some 5, none, .mov (.t 16)⟩])
def c1_pianolabook_Same_api_Event : C :=
 .seq (.seq (.ops [⟨some 11, none, .mov (.t 5)⟩,
  ⟨some 12, none, .mov (.t 0)⟩,
  ⟨some 13, none, .len 1 (.t 12)⟩,
  ⟨some 14, none, .bin .lss (.t 11) (.t 13)⟩])
  (.cond (.t 14)
  (.skip)
  (.exit 0)))
  (c0_pianolabook_Same_api_Event)
def c2_pianolabook_Same_api_Event : C :=
 .seq (.seq (.ops [⟨some 6, none, .mov (.t 0)⟩,
  ⟨some 7, none, .len 1 (.t 6)⟩,
  ⟨some 8, none, .mov (.t 1)⟩,
  ⟨some 9, none, .len 1 (.t 8)⟩,
  ⟨some 10, none, .bin .neq (.t 7) (.t 9)⟩])
  (.cond (.t 10)
  (.seq (.ops [⟨some 4, none, .mov (.c (.bool false))⟩])
  (.ret))
  (.skip)))
  (.seq (.seq (.ops [⟨some 5, none, .mov (.c (.int .i64 0))⟩])
  (.block 0
  (.loop c1_pianolabook_Same_api_Event)))
  (.seq (.ops [⟨some 4, none, .mov (.c (.bool true))⟩])
  (.ret)))
def c_pianolabook_Same_api_Event : C :=
 .seq (.ops [⟨some 4, none, .mov (.c (.bool false))⟩])
  (c2_pianolabook_Same_api_Event)
def f_pianolabook_Same_api_Event : F := ⟨c_pianolabook_Same_api_Event, [.t 4], some []⟩
theorem h_pianolabook_Same_api_Event : compF Try.prog (compAny Try.prog) n_pianolabook_Same_api_Event = some (f_pianolabook_Same_api_Event.body, f_pianolabook_Same_api_Event.res) := by kernel_rfl
/- (*pianola/timer.Timer).arm -/
def c_timer_Timer_arm : C :=
 .any 0 [.op 0 ⟨some 4, none, .mov (.t 0)⟩,
  .op 1 ⟨some 5, none, .nilc (.t 4)⟩,
  .op 2 ⟨some 6, none, .fa 1 (.t 5)⟩,
  .op 3 ⟨some 7, none, .ld (.t 6)⟩,
  .op 4 ⟨some 8, none, .mov (.t 0)⟩,
  .op 5 ⟨some 9, none, .nilc (.t 8)⟩,
  .op 6 ⟨some 10, none, .fa 0 (.t 9)⟩,
  .op 7 ⟨some 11, none, .ld (.t 10)⟩,
  .op 9 ⟨some 13, none, .mov (.t 0)⟩,
  .op 10 ⟨some 14, none, .nilc (.t 13)⟩,
  .op 11 ⟨some 15, none, .fa 3 (.t 14)⟩,
  .op 12 ⟨some 16, none, .ld (.t 15)⟩,
  .op 8 ⟨some 12, none, .mov (.t 1)⟩,
  .op 13 ⟨some 17, none, .mx (.c (.int .u32 1)) (.t 16)⟩,
  .op 14 ⟨some 18, none, .conv .i64 (.t 17)⟩,
  .op 15 ⟨some 19, none, .bin .add (.t 12) (.t 18)⟩,
  .op 16 ⟨some 20, none, .call n_wheel_Wheel_Arm [(.t 7), (.t 11), (.t 19)]⟩]
def f_timer_Timer_arm : F := ⟨c_timer_Timer_arm, [], some []⟩
theorem h_timer_Timer_arm : compF Try.prog (compAny Try.prog) n_timer_Timer_arm = some (f_timer_Timer_arm.body, f_timer_Timer_arm.res) := by kernel_rfl
/- (*pianola/timer.Timer).Read -/
def c0_timer_Timer_Read : C :=
 .seq (.ops [⟨some 20, none, .bin .eql (.t 6) (.c (.int .u32 8))⟩,
  ⟨some 19, none, .mov (.t 20)⟩])
  (.cond (.t 19)
  (.seq (.ops [⟨some 21, none, .mov (.t 0)⟩,
  ⟨some 22, none, .nilc (.t 21)⟩,
  ⟨some 23, none, .fa 4 (.t 22)⟩,
  ⟨some 24, none, .ld (.t 23)⟩,
  ⟨some 4, none, .mov (.t 24)⟩,
  ⟨some 5, none, .mov (.c (.bool true))⟩])
  (.ret))
  (.skip))
def c1_timer_Timer_Read : C :=
 .seq (.ops [⟨some 14, none, .bin .eql (.t 6) (.c (.int .u32 4))⟩,
  ⟨some 13, none, .mov (.t 14)⟩])
  (.cond (.t 13)
  (.seq (.ops [⟨some 15, none, .mov (.t 0)⟩,
  ⟨some 16, none, .nilc (.t 15)⟩,
  ⟨some 17, none, .fa 3 (.t 16)⟩,
  ⟨some 18, none, .ld (.t 17)⟩,
  ⟨some 4, none, .mov (.t 18)⟩,
  ⟨some 5, none, .mov (.c (.bool true))⟩])
  (.ret))
  (c0_timer_Timer_Read))
def c2_timer_Timer_Read : C :=
 .block 0
  (.seq (.ops [⟨some 8, none, .bin .eql (.t 6) (.c (.int .u32 0))⟩,
  ⟨some 7, none, .mov (.t 8)⟩])
  (.cond (.t 7)
  (.seq (.ops [⟨some 9, none, .mov (.t 0)⟩,
  ⟨some 10, none, .nilc (.t 9)⟩,
  ⟨some 11, none, .fa 2 (.t 10)⟩,
  ⟨some 12, none, .ld (.t 11)⟩,
  ⟨some 4, none, .mov (.t 12)⟩,
  ⟨some 5, none, .mov (.c (.bool true))⟩])
  (.ret))
  (c1_timer_Timer_Read)))
def c_timer_Timer_Read : C :=
 .seq (.ops [⟨some 4, none, .mov (.c (.int .u32 0))⟩,
  ⟨some 5, none, .mov (.c (.bool false))⟩])
  (.seq (.seq (.ops [⟨some 6, none, .mov (.t 1)⟩])
  (c2_timer_Timer_Read))
  (.seq (.ops [⟨some 4, none, .mov (.c (.int .u32 0))⟩,
  ⟨some 5, none, .mov (.c (.bool false))⟩])
  (.ret)))
def f_timer_Timer_Read : F := ⟨c_timer_Timer_Read, [.t 4, .t 5], some []⟩
theorem h_timer_Timer_Read : compF Try.prog (compAny Try.prog) n_timer_Timer_Read = some (f_timer_Timer_Read.body, f_timer_Timer_Read.res) := by kernel_rfl
/- pianola/pianolaref15.New -/
def c0_pianolaref15_New : C :=
 .seq (.ops [⟨some 35, none, .mov (.t 7)⟩,
  ⟨some 36, none, .nilc (.t 35)⟩,
  ⟨some 37, none, .fa 18 (.t 36)⟩,
  ⟨some 38, none, .fa 4 (.t 37)⟩,
  ⟨some 39, none, .ld (.t 38)⟩,
  ⟨some 40, none, .mov (.t 2)⟩,
  ⟨some 41, none, .cpy 1 (.t 39) (.t 40)⟩])
  (.seq (.ops [⟨some 42, none, .mov (.t 7)⟩,
  ⟨some 6, none, .mov (.t 42)⟩])
  (.ret))
def c1_pianolaref15_New : C :=
 .seq (.ops [⟨some 28, none, .mov (.t 7)⟩,
  ⟨some 29, none, .mov (.t 8)⟩,
  ⟨some 30, none, .bin .mul (.t 29) (.c (.int .i64 64))⟩,
  ⟨some 31, none, .mks [(.int .u8 0)] 1 (.t 30) (.t 30)⟩,
  ⟨some 32, none, .nilc (.t 28)⟩,
  ⟨some 33, none, .fa 18 (.t 32)⟩,
  ⟨some 34, none, .fa 4 (.t 33)⟩,
  ⟨none, none, .st (.t 34) (.t 31)⟩])
  (c0_pianolaref15_New)
def c2_pianolaref15_New : C :=
 .seq (.ops [⟨some 22, none, .mov (.t 2)⟩,
  ⟨some 23, none, .len 1 (.t 22)⟩,
  ⟨some 24, none, .bin .add (.t 23) (.c (.int .i64 64))⟩,
  ⟨some 25, none, .bin .sub (.t 24) (.c (.int .i64 1))⟩,
  ⟨some 26, none, .bin .quo (.t 25) (.c (.int .i64 64))⟩,
  ⟨some 27, none, .mn (.t 26) (.c (.int .i64 64))⟩,
  ⟨some 8, none, .mov (.t 27)⟩])
  (c1_pianolaref15_New)
def c3_pianolaref15_New : C :=
 .seq (.ops [⟨some 13, none, .mov (.t 7)⟩,
  ⟨some 14, none, .nilc (.t 13)⟩,
  ⟨some 15, none, .fa 0 (.t 14)⟩,
  ⟨some 16, none, .ld (.t 15)⟩,
  ⟨some 17, none, .nilc (.t 16)⟩,
  ⟨some 18, none, .fa 0 (.t 17)⟩,
  ⟨some 19, none, .ld (.t 18)⟩,
  ⟨some 20, none, .mov (.t 1)⟩,
  ⟨some 21, none, .cpy 1 (.t 19) (.t 20)⟩])
  (c2_pianolaref15_New)
def c4_pianolaref15_New : C :=
 .seq (.ops [⟨some 9, none, .mov (.t 0)⟩,
  ⟨some 10, none, .call n_pianolaref2_New [(.t 9)]⟩,
  ⟨some 11, none, .build [(.pointer none), (.slice none 0 0), (.int .i64 0), (.int .u32 0), (.int .u32 0), (.int .u32 0), (.int .u32 0), (.int .u32 0), (.int .u32 0), (.slice none 0 0), (.slice none 0 0), (.bool false), (.int .u32 0), (.slice none 0 0), (.int .u32 0), (.int .u32 0), (.int .u32 0), (.int .u32 0), (.int .u32 0), (.int .u32 0), (.int .u32 0), (.int .u32 0), (.slice none 0 0), (.int .u32 0), (.int .u32 0)] [(0, 1, (.t 10))]⟩,
  ⟨some 12, none, .box (.t 11)⟩,
  ⟨some 7, none, .mov (.t 12)⟩])
  (c3_pianolaref15_New)
def c_pianolaref15_New : C :=
 .seq (.ops [⟨some 6, none, .mov (.c (.pointer none))⟩])
  (c4_pianolaref15_New)
def f_pianolaref15_New : F := ⟨c_pianolaref15_New, [.t 6], some []⟩
theorem h_pianolaref15_New : compF Try.prog (compAny Try.prog) n_pianolaref15_New = some (f_pianolaref15_New.body, f_pianolaref15_New.res) := by kernel_rfl
/- (*pianola/pianolaref15.Bus).Word -/
def c0_pianolaref15_Bus_Word : C :=
 .any 1 [.op 0 ⟨some 17, none, .mov (.t 0)⟩,
  .op 1 ⟨some 18, none, .nilc (.t 17)⟩,
  .op 2 ⟨some 19, none, .fa 23 (.t 18)⟩,
  .op 3 ⟨some 20, none, .ld (.t 19)⟩,
  .op 4 ⟨some 21, none, .mov (.t 0)⟩,
  .op 5 ⟨some 22, none, .nilc (.t 21)⟩,
  .op 6 ⟨some 23, none, .fa 24 (.t 22)⟩,
  .op 7 ⟨some 24, none, .ld (.t 23)⟩,
  .op 8 ⟨some 25, none, .mov (.t 3)⟩,
  .op 9 ⟨some 26, none, .conv .u64 (.t 25)⟩,
  .op 10 ⟨some 27, none, .conv .u32 (.t 26)⟩,
  .op 11 ⟨some 28, none, .mov (.t 3)⟩,
  .op 12 ⟨some 29, none, .conv .u64 (.t 28)⟩,
  .op 13 ⟨some 30, none, .bin .shr (.t 29) (.c (.int .u64 32))⟩,
  .op 14 ⟨some 31, none, .conv .u32 (.t 30)⟩,
  .al 15 0 ⟨some 32, none, .bsl 4 [(.int .u32 0), (.int .u32 0), (.int .u32 0), (.int .u32 0)] [(0, 1, (.t 20)), (1, 1, (.t 24)), (2, 1, (.t 27)), (3, 1, (.t 31))]⟩,
  .op 16 ⟨some 10, none, .mov (.t 32)⟩]
def c1_pianolaref15_Bus_Word : C :=
 .ops [⟨some 43, none, .fa 0 (.t 11)⟩,
  ⟨some 44, none, .ld (.t 43)⟩,
  ⟨some 45, none, .fa 1 (.t 11)⟩,
  ⟨some 46, none, .ld (.t 45)⟩,
  ⟨some 47, none, .fa 2 (.t 11)⟩,
  ⟨some 48, none, .ld (.t 47)⟩,
  ⟨some 49, none, .bsl 3 [(.int .u32 0), (.int .u32 0), (.int .u32 0)] [(0, 1, (.t 44)), (1, 1, (.t 46)), (2, 1, (.t 48))]⟩,
  ⟨some 10, none, .mov (.t 49)⟩]
def c2_pianolaref15_Bus_Word : C :=
 .seq (.ops [⟨some 36, none, .mov (.t 0)⟩,
  ⟨some 37, none, .mov (.t 1)⟩,
  ⟨some 38, none, .bin .sub (.t 37) (.c (.int .i64 1))⟩,
  ⟨some 39, none, .nilc (.t 36)⟩,
  ⟨some 40, none, .fa 3 (.t 39)⟩,
  ⟨some 41, none, .iaa 2 3 (.t 40) (.t 38)⟩,
  ⟨some 42, none, .ldn 3 (.t 41)⟩,
  ⟨some 11, none, .new [(.int .u32 0), (.int .u32 0), (.int .u32 0)]⟩,
  ⟨none, none, .stn 3 (.t 11) (.t 42)⟩])
  (c1_pianolaref15_Bus_Word)
def c3_pianolaref15_Bus_Word : C :=
 .ops [⟨some 59, none, .mov (.t 0)⟩,
  ⟨some 60, none, .nilc (.t 59)⟩,
  ⟨some 61, none, .fa 9 (.t 60)⟩,
  ⟨some 62, none, .fa 0 (.t 61)⟩,
  ⟨some 63, none, .ld (.t 62)⟩,
  ⟨some 64, none, .ia 1 (.t 63) (.c (.int .i64 0))⟩,
  ⟨some 65, none, .ld (.t 64)⟩,
  ⟨some 66, none, .conv .u32 (.t 65)⟩,
  ⟨some 12, none, .mov (.t 66)⟩]
def c4_pianolaref15_Bus_Word : C :=
 .any 1 [.op 1 ⟨some 68, none, .mov (.t 0)⟩,
  .op 2 ⟨some 69, none, .nilc (.t 68)⟩,
  .op 3 ⟨some 70, none, .fa 9 (.t 69)⟩,
  .op 4 ⟨some 71, none, .fa 0 (.t 70)⟩,
  .op 5 ⟨some 72, none, .ld (.t 71)⟩,
  .op 6 ⟨some 73, none, .len 1 (.t 72)⟩,
  .op 9 ⟨some 76, none, .mov (.t 0)⟩,
  .op 10 ⟨some 77, none, .nilc (.t 76)⟩,
  .op 11 ⟨some 78, none, .fa 9 (.t 77)⟩,
  .op 12 ⟨some 79, none, .fa 1 (.t 78)⟩,
  .op 13 ⟨some 80, none, .ld (.t 79)⟩,
  .op 14 ⟨some 81, none, .len 1 (.t 80)⟩,
  .op 18 ⟨some 85, none, .mov (.t 0)⟩,
  .op 19 ⟨some 86, none, .nilc (.t 85)⟩,
  .op 20 ⟨some 87, none, .fa 9 (.t 86)⟩,
  .op 21 ⟨some 88, none, .fa 2 (.t 87)⟩,
  .op 22 ⟨some 89, none, .ld (.t 88)⟩,
  .op 25 ⟨some 92, none, .mov (.t 0)⟩,
  .op 26 ⟨some 93, none, .nilc (.t 92)⟩,
  .op 27 ⟨some 94, none, .fa 9 (.t 93)⟩,
  .op 28 ⟨some 95, none, .fa 1 (.t 94)⟩,
  .op 29 ⟨some 96, none, .ld (.t 95)⟩,
  .op 30 ⟨some 97, none, .len 1 (.t 96)⟩,
  .op 34 ⟨some 101, none, .mov (.t 0)⟩,
  .op 35 ⟨some 102, none, .nilc (.t 101)⟩,
  .op 36 ⟨some 103, none, .fa 9 (.t 102)⟩,
  .op 37 ⟨some 104, none, .fa 3 (.t 103)⟩,
  .op 38 ⟨some 105, none, .ld (.t 104)⟩,
  .op 7 ⟨some 74, none, .bin .gtr (.t 73) (.c (.int .i64 0))⟩,
  .op 8 ⟨some 75, none, .call n_pianolaref15_bit [(.t 74), (.c (.int .u64 0))]⟩,
  .re 13 ⟨some 80, none, .ld (.t 79)⟩,
  .re 14 ⟨some 81, none, .len 1 (.t 80)⟩,
  .re 22 ⟨some 89, none, .ld (.t 88)⟩,
  .re 29 ⟨some 96, none, .ld (.t 95)⟩,
  .re 30 ⟨some 97, none, .len 1 (.t 96)⟩,
  .re 38 ⟨some 105, none, .ld (.t 104)⟩,
  .op 15 ⟨some 82, none, .bin .geq (.t 81) (.c (.int .i64 16))⟩,
  .op 16 ⟨some 83, none, .call n_pianolaref15_bit [(.t 82), (.c (.int .u64 1))]⟩,
  .re 22 ⟨some 89, none, .ld (.t 88)⟩,
  .re 29 ⟨some 96, none, .ld (.t 95)⟩,
  .re 30 ⟨some 97, none, .len 1 (.t 96)⟩,
  .re 38 ⟨some 105, none, .ld (.t 104)⟩,
  .op 23 ⟨some 90, none, .call n_pianolaref15_bit [(.t 89), (.c (.int .u64 2))]⟩,
  .re 29 ⟨some 96, none, .ld (.t 95)⟩,
  .re 30 ⟨some 97, none, .len 1 (.t 96)⟩,
  .re 38 ⟨some 105, none, .ld (.t 104)⟩,
  .op 31 ⟨some 98, none, .bin .eql (.t 97) (.c (.int .i64 0))⟩,
  .op 32 ⟨some 99, none, .call n_pianolaref15_bit [(.t 98), (.c (.int .u64 3))]⟩,
  .re 38 ⟨some 105, none, .ld (.t 104)⟩,
  .op 0 ⟨some 67, none, .mov (.t 12)⟩,
  .op 17 ⟨some 84, none, .bin .or (.t 75) (.t 83)⟩,
  .op 24 ⟨some 91, none, .bin .or (.t 84) (.t 90)⟩,
  .op 33 ⟨some 100, none, .bin .or (.t 91) (.t 99)⟩,
  .al 39 0 ⟨some 106, none, .bsl 3 [(.int .u32 0), (.int .u32 0), (.int .u32 0)] [(0, 1, (.t 67)), (1, 1, (.t 100)), (2, 1, (.t 105))]⟩,
  .op 40 ⟨some 10, none, .mov (.t 106)⟩]
def c5_pianolaref15_Bus_Word : C :=
 .seq (.seq (.ops [⟨some 52, none, .mov (.t 0)⟩,
  ⟨some 53, none, .nilc (.t 52)⟩,
  ⟨some 54, none, .fa 9 (.t 53)⟩,
  ⟨some 55, none, .fa 0 (.t 54)⟩,
  ⟨some 56, none, .ld (.t 55)⟩,
  ⟨some 57, none, .len 1 (.t 56)⟩,
  ⟨some 58, none, .bin .gtr (.t 57) (.c (.int .i64 0))⟩])
  (.cond (.t 58)
  (c3_pianolaref15_Bus_Word)
  (.skip)))
  (c4_pianolaref15_Bus_Word)
def c6_pianolaref15_Bus_Word : C :=
 .any 1 [.op 0 ⟨some 109, none, .mov (.t 0)⟩,
  .op 1 ⟨some 110, none, .nilc (.t 109)⟩,
  .op 2 ⟨some 111, none, .fa 14 (.t 110)⟩,
  .op 3 ⟨some 112, none, .fa 0 (.t 111)⟩,
  .op 4 ⟨some 113, none, .ld (.t 112)⟩,
  .op 5 ⟨some 114, none, .mov (.t 0)⟩,
  .op 6 ⟨some 115, none, .nilc (.t 114)⟩,
  .op 7 ⟨some 116, none, .fa 14 (.t 115)⟩,
  .op 8 ⟨some 117, none, .fa 1 (.t 116)⟩,
  .op 9 ⟨some 118, none, .ld (.t 117)⟩,
  .op 10 ⟨some 119, none, .mov (.t 0)⟩,
  .op 11 ⟨some 120, none, .nilc (.t 119)⟩,
  .op 12 ⟨some 121, none, .fa 14 (.t 120)⟩,
  .op 13 ⟨some 122, none, .fa 2 (.t 121)⟩,
  .op 14 ⟨some 123, none, .ld (.t 122)⟩,
  .op 15 ⟨some 124, none, .mov (.t 0)⟩,
  .op 16 ⟨some 125, none, .nilc (.t 124)⟩,
  .op 17 ⟨some 126, none, .fa 14 (.t 125)⟩,
  .op 18 ⟨some 127, none, .fa 3 (.t 126)⟩,
  .op 19 ⟨some 128, none, .ld (.t 127)⟩,
  .al 20 0 ⟨some 129, none, .bsl 5 [(.int .u32 0), (.int .u32 0), (.int .u32 0), (.int .u32 0), (.int .u32 0)] [(0, 1, (.t 113)), (1, 1, (.t 118)), (2, 1, (.t 123)), (3, 1, (.c (.int .u32 0))), (4, 1, (.t 128))]⟩,
  .op 21 ⟨some 10, none, .mov (.t 129)⟩]
def c7_pianolaref15_Bus_Word : C :=
 .any 1 [.op 0 ⟨some 132, none, .mov (.t 0)⟩,
  .op 1 ⟨some 133, none, .nilc (.t 132)⟩,
  .op 2 ⟨some 134, none, .fa 18 (.t 133)⟩,
  .op 3 ⟨some 135, none, .fa 0 (.t 134)⟩,
  .op 4 ⟨some 136, none, .ld (.t 135)⟩,
  .op 5 ⟨some 137, none, .mov (.t 0)⟩,
  .op 6 ⟨some 138, none, .nilc (.t 137)⟩,
  .op 7 ⟨some 139, none, .fa 18 (.t 138)⟩,
  .op 8 ⟨some 140, none, .fa 1 (.t 139)⟩,
  .op 9 ⟨some 141, none, .ld (.t 140)⟩,
  .op 10 ⟨some 142, none, .mov (.t 0)⟩,
  .op 11 ⟨some 143, none, .nilc (.t 142)⟩,
  .op 12 ⟨some 144, none, .fa 18 (.t 143)⟩,
  .op 13 ⟨some 145, none, .fa 2 (.t 144)⟩,
  .op 14 ⟨some 146, none, .ld (.t 145)⟩,
  .op 15 ⟨some 147, none, .mov (.t 0)⟩,
  .op 16 ⟨some 148, none, .nilc (.t 147)⟩,
  .op 17 ⟨some 149, none, .fa 18 (.t 148)⟩,
  .op 18 ⟨some 150, none, .fa 3 (.t 149)⟩,
  .op 19 ⟨some 151, none, .ld (.t 150)⟩,
  .al 20 0 ⟨some 152, none, .bsl 4 [(.int .u32 0), (.int .u32 0), (.int .u32 0), (.int .u32 0)] [(0, 1, (.t 136)), (1, 1, (.t 141)), (2, 1, (.t 146)), (3, 1, (.t 151))]⟩,
  .op 21 ⟨some 10, none, .mov (.t 152)⟩]
def c8_pianolaref15_Bus_Word : C :=
 .cond (.t 50)
  (.seq (.ops [⟨some 12, none, .mov (.c (.int .u32 256))⟩])
  (c5_pianolaref15_Bus_Word))
  (.seq (.ops [⟨some 108, none, .bin .eql (.t 14) (.c (.int .i64 4))⟩,
  ⟨some 107, none, .mov (.t 108)⟩])
  (.cond (.t 107)
  (c6_pianolaref15_Bus_Word)
  (.seq (.ops [⟨some 131, none, .bin .eql (.t 14) (.c (.int .i64 5))⟩,
  ⟨some 130, none, .mov (.t 131)⟩])
  (.cond (.t 130)
  (c7_pianolaref15_Bus_Word)
  (.skip)))))
def c9_pianolaref15_Bus_Word : C :=
 .seq (.seq (.ops [⟨some 34, none, .bin .eql (.t 14) (.c (.int .i64 1))⟩,
  ⟨some 33, none, .mov (.t 34)⟩])
  (.cond (.t 33)
  (.skip)
  (.ops [⟨some 35, none, .bin .eql (.t 14) (.c (.int .i64 2))⟩,
  ⟨some 33, none, .mov (.t 35)⟩])))
  (.cond (.t 33)
  (c2_pianolaref15_Bus_Word)
  (.seq (.ops [⟨some 51, none, .bin .eql (.t 14) (.c (.int .i64 3))⟩,
  ⟨some 50, none, .mov (.t 51)⟩])
  (c8_pianolaref15_Bus_Word)))
def c10_pianolaref15_Bus_Word : C :=
 .ops [⟨some 179, none, .mov (.t 0)⟩,
  ⟨some 180, none, .bsl 0 [] []⟩,
  ⟨some 181, none, .mov (.t 0)⟩,
  ⟨some 182, none, .nilc (.t 181)⟩,
  ⟨some 183, none, .fa 9 (.t 182)⟩,
  ⟨some 184, none, .fa 0 (.t 183)⟩,
  ⟨some 185, none, .ld (.t 184)⟩,
  ⟨some 186, none, .sl 1 (.t 185) (some (.c (.int .i64 1))) none none⟩,
  ⟨some 187, none, .app 1 1 (.t 180) (.t 186)⟩,
  ⟨some 188, none, .nilc (.t 179)⟩,
  ⟨some 189, none, .fa 9 (.t 188)⟩,
  ⟨some 190, none, .fa 0 (.t 189)⟩,
  ⟨none, none, .st (.t 190) (.t 187)⟩]
def c11_pianolaref15_Bus_Word : C :=
 .seq (.seq (.ops [⟨some 164, none, .mov (.t 1)⟩,
  ⟨some 165, none, .bin .eql (.t 164) (.c (.int .i64 3))⟩,
  ⟨some 166, none, .mov (.t 165)⟩,
  ⟨some 167, some (166, true), .mov (.t 2)⟩,
  ⟨some 168, some (166, true), .bin .eql (.t 167) (.c (.int .u32 0))⟩,
  ⟨some 169, none, .pick (.t 166) (.t 168) (.c (.bool false))⟩,
  ⟨some 170, none, .mov (.t 169)⟩,
  ⟨some 171, some (170, true), .mov (.t 0)⟩,
  ⟨some 172, some (170, true), .nilc (.t 171)⟩,
  ⟨some 173, some (170, true), .fa 9 (.t 172)⟩,
  ⟨some 174, some (170, true), .fa 0 (.t 173)⟩,
  ⟨some 175, some (170, true), .ld (.t 174)⟩,
  ⟨some 176, some (170, true), .len 1 (.t 175)⟩,
  ⟨some 177, some (170, true), .bin .gtr (.t 176) (.c (.int .i64 0))⟩,
  ⟨some 178, none, .pick (.t 170) (.t 177) (.c (.bool false))⟩])
  (.cond (.t 178)
  (c10_pianolaref15_Bus_Word)
  (.skip)))
  (.seq (.ops [⟨some 191, none, .mov (.t 10)⟩,
  ⟨some 192, none, .mov (.t 2)⟩,
  ⟨some 193, none, .bin .quo (.t 192) (.c (.int .u32 4))⟩,
  ⟨some 194, none, .ia 1 (.t 191) (.t 193)⟩,
  ⟨some 195, none, .ld (.t 194)⟩,
  ⟨some 8, none, .mov (.t 195)⟩,
  ⟨some 9, none, .mov (.c (.bool true))⟩])
  (.ret))
def c12_pianolaref15_Bus_Word : C :=
 .seq (.seq (.ops [⟨some 153, none, .mov (.t 2)⟩,
  ⟨some 154, none, .bin .rem (.t 153) (.c (.int .u32 4))⟩,
  ⟨some 155, none, .bin .neq (.t 154) (.c (.int .u32 0))⟩,
  ⟨some 156, none, .mov (.t 155)⟩,
  ⟨some 157, some (156, false), .mov (.t 2)⟩,
  ⟨some 158, some (156, false), .bin .quo (.t 157) (.c (.int .u32 4))⟩,
  ⟨some 159, some (156, false), .mov (.t 10)⟩,
  ⟨some 160, some (156, false), .len 1 (.t 159)⟩,
  ⟨some 161, some (156, false), .conv .u32 (.t 160)⟩,
  ⟨some 162, some (156, false), .bin .geq (.t 158) (.t 161)⟩,
  ⟨some 163, none, .pick (.t 156) (.c (.bool true)) (.t 162)⟩])
  (.cond (.t 163)
  (.seq (.ops [⟨some 8, none, .mov (.c (.int .u32 0))⟩,
  ⟨some 9, none, .mov (.c (.bool false))⟩])
  (.ret))
  (.skip)))
  (c11_pianolaref15_Bus_Word)
def c_pianolaref15_Bus_Word : C :=
 .seq (.ops [⟨some 8, none, .mov (.c (.int .u32 0))⟩,
  ⟨some 9, none, .mov (.c (.bool false))⟩])
  (.seq (.ops [⟨some 13, none, .bsl 0 [] []⟩,
  ⟨some 10, none, .mov (.t 13)⟩])
  (.seq (.seq (.ops [⟨some 14, none, .mov (.t 1)⟩])
  (.block 0
  (.seq (.ops [⟨some 16, none, .bin .eql (.t 14) (.c (.int .i64 0))⟩,
  ⟨some 15, none, .mov (.t 16)⟩])
  (.cond (.t 15)
  (c0_pianolaref15_Bus_Word)
  (c9_pianolaref15_Bus_Word)))))
  (c12_pianolaref15_Bus_Word)))
def f_pianolaref15_Bus_Word : F := ⟨c_pianolaref15_Bus_Word, [.t 8, .t 9], some []⟩
theorem h_pianolaref15_Bus_Word : compF Try.prog (compAny Try.prog) n_pianolaref15_Bus_Word = some (f_pianolaref15_Bus_Word.body, f_pianolaref15_Bus_Word.res) := by kernel_rfl
/- (*pianola/pianolaref15.Bus).B1 -/
def c0_pianolaref15_Bus_B1 : C :=
 .any 0 [.op 3 ⟨some 29, none, .fa 1 (.t 3)⟩,
  .op 4 ⟨some 30, none, .ld (.t 29)⟩,
  .op 5 ⟨some 31, none, .fa 0 (.t 3)⟩,
  .op 6 ⟨some 32, none, .ld (.t 31)⟩,
  .op 7 ⟨some 33, none, .mov (.t 4)⟩,
  .op 8 ⟨some 34, none, .nilc (.t 33)⟩,
  .op 9 ⟨some 35, none, .fa 1 (.t 34)⟩,
  .op 10 ⟨some 36, none, .ld (.t 35)⟩,
  .op 0 ⟨some 26, none, .mov (.t 0)⟩,
  .op 1 ⟨some 27, none, .nilc (.t 26)⟩,
  .op 2 ⟨some 28, none, .fa 1 (.t 27)⟩,
  .op 11 ⟨some 37, none, .conv .i64 (.t 36)⟩,
  .op 12 ⟨some 38, none, .mx (.t 37) (.c (.int .i64 1))⟩,
  .op 13 ⟨some 39, none, .bin .add (.t 32) (.t 38)⟩,
  .op 14 ⟨some 40, none, .call n_pianolaref9_Wheel_Arm [(.t 28), (.t 30), (.t 39)]⟩]
def c1_pianolaref15_Bus_B1 : C :=
 .ops [⟨some 41, none, .mov (.t 4)⟩,
  ⟨some 42, none, .mov (.t 4)⟩,
  ⟨some 43, none, .nilc (.t 42)⟩,
  ⟨some 44, none, .fa 0 (.t 43)⟩,
  ⟨some 45, none, .ld (.t 44)⟩,
  ⟨some 46, none, .bin .andNot (.t 45) (.c (.int .u32 1))⟩,
  ⟨some 47, none, .nilc (.t 41)⟩,
  ⟨some 48, none, .fa 0 (.t 47)⟩,
  ⟨none, none, .st (.t 48) (.t 46)⟩]
def c2_pianolaref15_Bus_B1 : C :=
 .seq (.ops [⟨some 17, none, .mov (.t 4)⟩,
  ⟨some 18, none, .nilc (.t 17)⟩,
  ⟨some 19, none, .fa 2 (.t 18)⟩,
  ⟨none, none, .st (.t 19) (.c (.int .u32 1))⟩])
  (.seq (.ops [⟨some 20, none, .mov (.t 4)⟩,
  ⟨some 21, none, .nilc (.t 20)⟩,
  ⟨some 22, none, .fa 0 (.t 21)⟩,
  ⟨some 23, none, .ld (.t 22)⟩,
  ⟨some 24, none, .bin .and (.t 23) (.c (.int .u32 2))⟩,
  ⟨some 25, none, .bin .neq (.t 24) (.c (.int .u32 0))⟩])
  (.cond (.t 25)
  (c0_pianolaref15_Bus_B1)
  (c1_pianolaref15_Bus_B1)))
def c3_pianolaref15_Bus_B1 : C :=
 .seq (.any 0 [.op 1 ⟨some 11, none, .fa 1 (.t 3)⟩,
  .op 2 ⟨some 12, none, .ld (.t 11)⟩,
  .op 0 ⟨some 10, none, .mov (.t 0)⟩,
  .op 3 ⟨some 13, none, .bin .sub (.t 12) (.c (.int .i64 1))⟩,
  .op 4 ⟨some 14, none, .nilc (.t 10)⟩,
  .op 5 ⟨some 15, none, .fa 3 (.t 14)⟩,
  .op 6 ⟨some 16, none, .iaa 2 3 (.t 15) (.t 13)⟩,
  .op 7 ⟨some 4, none, .mov (.t 16)⟩])
  (c2_pianolaref15_Bus_B1)
def c4_pianolaref15_Bus_B1 : C :=
 .any 1 [.op 1 ⟨some 66, none, .mov (.t 0)⟩,
  .op 2 ⟨some 67, none, .nilc (.t 66)⟩,
  .op 3 ⟨some 68, none, .fa 9 (.t 67)⟩,
  .op 4 ⟨some 69, none, .fa 4 (.t 68)⟩,
  .op 5 ⟨some 70, none, .ld (.t 69)⟩,
  .op 6 ⟨some 71, none, .mov (.t 0)⟩,
  .op 7 ⟨some 72, none, .nilc (.t 71)⟩,
  .op 8 ⟨some 73, none, .fa 9 (.t 72)⟩,
  .op 9 ⟨some 74, none, .fa 1 (.t 73)⟩,
  .op 10 ⟨some 75, none, .ld (.t 74)⟩,
  .op 11 ⟨some 76, none, .ia 1 (.t 75) (.c (.int .i64 0))⟩,
  .op 12 ⟨some 77, none, .ld (.t 76)⟩,
  .al 13 0 ⟨some 78, none, .bsl 1 [(.int .u8 0)] [(0, 1, (.t 77))]⟩,
  .op 14 ⟨some 79, none, .app 1 1 (.t 70) (.t 78)⟩,
  .op 0 ⟨some 65, none, .mov (.t 0)⟩,
  .op 15 ⟨some 80, none, .nilc (.t 65)⟩,
  .op 16 ⟨some 81, none, .fa 9 (.t 80)⟩,
  .op 17 ⟨some 82, none, .fa 4 (.t 81)⟩,
  .op 18 ⟨none, none, .st (.t 82) (.t 79)⟩]
def c5_pianolaref15_Bus_B1 : C :=
 .ops [⟨some 83, none, .mov (.t 0)⟩,
  ⟨some 84, none, .bsl 0 [] []⟩,
  ⟨some 85, none, .mov (.t 0)⟩,
  ⟨some 86, none, .nilc (.t 85)⟩,
  ⟨some 87, none, .fa 9 (.t 86)⟩,
  ⟨some 88, none, .fa 1 (.t 87)⟩,
  ⟨some 89, none, .ld (.t 88)⟩,
  ⟨some 90, none, .sl 1 (.t 89) (some (.c (.int .i64 1))) none none⟩,
  ⟨some 91, none, .app 1 1 (.t 84) (.t 90)⟩,
  ⟨some 92, none, .nilc (.t 83)⟩,
  ⟨some 93, none, .fa 9 (.t 92)⟩,
  ⟨some 94, none, .fa 1 (.t 93)⟩,
  ⟨none, none, .st (.t 94) (.t 91)⟩]
def c6_pianolaref15_Bus_B1 : C :=
 .seq (.seq (.ops [⟨some 58, none, .mov (.t 0)⟩,
  ⟨some 59, none, .nilc (.t 58)⟩,
  ⟨some 60, none, .fa 9 (.t 59)⟩,
  ⟨some 61, none, .fa 4 (.t 60)⟩,
  ⟨some 62, none, .ld (.t 61)⟩,
  ⟨some 63, none, .len 1 (.t 62)⟩,
  ⟨some 64, none, .bin .lss (.t 63) (.c (.int .i64 65536))⟩])
  (.cond (.t 64)
  (c4_pianolaref15_Bus_B1)
  (.skip)))
  (c5_pianolaref15_Bus_B1)
def c7_pianolaref15_Bus_B1 : C :=
 .any 0 [.op 3 ⟨some 105, none, .fa 0 (.t 3)⟩,
  .op 4 ⟨some 106, none, .ld (.t 105)⟩,
  .op 0 ⟨some 102, none, .mov (.t 0)⟩,
  .op 1 ⟨some 103, none, .nilc (.t 102)⟩,
  .op 2 ⟨some 104, none, .fa 1 (.t 103)⟩,
  .op 5 ⟨some 107, none, .bin .add (.t 106) (.c (.int .i64 8))⟩,
  .op 6 ⟨some 108, none, .call n_pianolaref9_Wheel_Arm [(.t 104), (.c (.int .i64 3)), (.t 107)]⟩]
def c8_pianolaref15_Bus_B1 : C :=
 .seq (.ops [⟨some 95, none, .mov (.t 0)⟩,
  ⟨some 96, none, .nilc (.t 95)⟩,
  ⟨some 97, none, .fa 9 (.t 96)⟩,
  ⟨some 98, none, .fa 1 (.t 97)⟩,
  ⟨some 99, none, .ld (.t 98)⟩,
  ⟨some 100, none, .len 1 (.t 99)⟩,
  ⟨some 101, none, .bin .gtr (.t 100) (.c (.int .i64 0))⟩])
  (.cond (.t 101)
  (c7_pianolaref15_Bus_B1)
  (.skip))
def c9_pianolaref15_Bus_B1 : C :=
 .seq (.seq (.ops [⟨some 51, none, .mov (.t 0)⟩,
  ⟨some 52, none, .nilc (.t 51)⟩,
  ⟨some 53, none, .fa 9 (.t 52)⟩,
  ⟨some 54, none, .fa 1 (.t 53)⟩,
  ⟨some 55, none, .ld (.t 54)⟩,
  ⟨some 56, none, .len 1 (.t 55)⟩,
  ⟨some 57, none, .bin .gtr (.t 56) (.c (.int .i64 0))⟩])
  (.cond (.t 57)
  (c6_pianolaref15_Bus_B1)
  (.skip)))
  (c8_pianolaref15_Bus_B1)
def c10_pianolaref15_Bus_B1 : C :=
 .cond (.t 109)
  (.ops [⟨some 111, none, .mov (.t 0)⟩,
  ⟨some 112, none, .call n_pianolaref15_Bus_move [(.t 111)]⟩])
  (.seq (.ops [⟨some 114, none, .bin .eql (.t 6) (.c (.int .i64 5))⟩,
  ⟨some 113, none, .mov (.t 114)⟩])
  (.cond (.t 113)
  (.ops [⟨some 115, none, .mov (.t 0)⟩,
  ⟨some 116, none, .call n_pianolaref15_Bus_sector [(.t 115)]⟩])
  (.skip)))
def c11_pianolaref15_Bus_B1 : C :=
 .block 0
  (.seq (.seq (.ops [⟨some 8, none, .bin .eql (.t 6) (.c (.int .i64 1))⟩,
  ⟨some 7, none, .mov (.t 8)⟩])
  (.cond (.t 7)
  (.skip)
  (.ops [⟨some 9, none, .bin .eql (.t 6) (.c (.int .i64 2))⟩,
  ⟨some 7, none, .mov (.t 9)⟩])))
  (.cond (.t 7)
  (c3_pianolaref15_Bus_B1)
  (.seq (.ops [⟨some 50, none, .bin .eql (.t 6) (.c (.int .i64 3))⟩,
  ⟨some 49, none, .mov (.t 50)⟩])
  (.cond (.t 49)
  (c9_pianolaref15_Bus_B1)
  (.seq (.ops [⟨some 110, none, .bin .eql (.t 6) (.c (.int .i64 4))⟩,
  ⟨some 109, none, .mov (.t 110)⟩])
  (c10_pianolaref15_Bus_B1))))))
def c_pianolaref15_Bus_B1 : C :=
 .seq (.ops [⟨some 3, none, .box (.t 1)⟩])
  (.seq (.ops [⟨some 5, none, .fa 1 (.t 3)⟩,
  ⟨some 6, none, .ld (.t 5)⟩])
  (c11_pianolaref15_Bus_B1))
def f_pianolaref15_Bus_B1 : F := ⟨c_pianolaref15_Bus_B1, [], some []⟩
theorem h_pianolaref15_Bus_B1 : compF Try.prog (compAny Try.prog) n_pianolaref15_Bus_B1 = some (f_pianolaref15_Bus_B1.body, f_pianolaref15_Bus_B1.res) := by kernel_rfl
/- (*pianola/pianolaref15.Bus).Set -/
def c0_pianolaref15_Bus_Set : C :=
 .seq (.seq (.ops [⟨some 17, none, .mov (.t 2)⟩,
  ⟨some 18, none, .bin .eql (.t 17) (.c (.int .u32 4))⟩])
  (.cond (.t 18)
  (.ops [⟨some 19, none, .mov (.t 0)⟩,
  ⟨some 20, none, .mov (.t 3)⟩,
  ⟨some 21, none, .bin .and (.t 20) (.c (.int .u32 62))⟩,
  ⟨some 22, none, .nilc (.t 19)⟩,
  ⟨some 23, none, .fa 24 (.t 22)⟩,
  ⟨none, none, .st (.t 23) (.t 21)⟩])
  (.skip)))
  (.seq (.ops [⟨some 24, none, .mov (.t 2)⟩,
  ⟨some 25, none, .bin .lss (.t 24) (.c (.int .u32 16))⟩,
  ⟨some 10, none, .mov (.t 25)⟩])
  (.ret))
def c1_pianolaref15_Bus_Set : C :=
 .seq (.ops [⟨some 29, none, .mov (.t 0)⟩,
  ⟨some 30, none, .mov (.t 1)⟩,
  ⟨some 31, none, .mov (.t 2)⟩,
  ⟨some 32, none, .bin .quo (.t 31) (.c (.int .u32 4))⟩,
  ⟨some 33, none, .mov (.t 3)⟩,
  ⟨some 34, none, .mov (.t 4)⟩,
  ⟨some 35, none, .call n_pianolaref15_Bus_timer [(.t 29), (.t 30), (.t 32), (.t 33), (.t 34)]⟩,
  ⟨some 10, none, .mov (.t 35)⟩])
  (.ret)
def c2_pianolaref15_Bus_Set : C :=
 .cond (.t 52)
  (.seq (.ops [⟨some 54, none, .mov (.t 0)⟩,
  ⟨some 55, none, .mov (.t 2)⟩,
  ⟨some 56, none, .bin .quo (.t 55) (.c (.int .u32 4))⟩,
  ⟨some 57, none, .mov (.t 3)⟩,
  ⟨some 58, none, .mov (.t 4)⟩,
  ⟨some 59, none, .call n_pianolaref15_Bus_disk [(.t 54), (.t 56), (.t 57), (.t 58)]⟩,
  ⟨some 10, none, .mov (.t 59)⟩])
  (.ret))
  (.skip)
def c3_pianolaref15_Bus_Set : C :=
 .cond (.t 44)
  (.seq (.ops [⟨some 46, none, .mov (.t 0)⟩,
  ⟨some 47, none, .mov (.t 2)⟩,
  ⟨some 48, none, .bin .quo (.t 47) (.c (.int .u32 4))⟩,
  ⟨some 49, none, .mov (.t 3)⟩,
  ⟨some 50, none, .mov (.t 4)⟩,
  ⟨some 51, none, .call n_pianolaref15_Bus_dma [(.t 46), (.t 48), (.t 49), (.t 50)]⟩,
  ⟨some 10, none, .mov (.t 51)⟩])
  (.ret))
  (.seq (.ops [⟨some 53, none, .bin .eql (.t 14) (.c (.int .i64 5))⟩,
  ⟨some 52, none, .mov (.t 53)⟩])
  (c2_pianolaref15_Bus_Set))
def c4_pianolaref15_Bus_Set : C :=
 .cond (.t 36)
  (.seq (.ops [⟨some 38, none, .mov (.t 0)⟩,
  ⟨some 39, none, .mov (.t 2)⟩,
  ⟨some 40, none, .bin .quo (.t 39) (.c (.int .u32 4))⟩,
  ⟨some 41, none, .mov (.t 3)⟩,
  ⟨some 42, none, .mov (.t 4)⟩,
  ⟨some 43, none, .call n_pianolaref15_Bus_uart [(.t 38), (.t 40), (.t 41), (.t 42)]⟩,
  ⟨some 10, none, .mov (.t 43)⟩])
  (.ret))
  (.seq (.ops [⟨some 45, none, .bin .eql (.t 14) (.c (.int .i64 4))⟩,
  ⟨some 44, none, .mov (.t 45)⟩])
  (c3_pianolaref15_Bus_Set))
def c5_pianolaref15_Bus_Set : C :=
 .seq (.seq (.ops [⟨some 27, none, .bin .eql (.t 14) (.c (.int .i64 1))⟩,
  ⟨some 26, none, .mov (.t 27)⟩])
  (.cond (.t 26)
  (.skip)
  (.ops [⟨some 28, none, .bin .eql (.t 14) (.c (.int .i64 2))⟩,
  ⟨some 26, none, .mov (.t 28)⟩])))
  (.cond (.t 26)
  (c1_pianolaref15_Bus_Set)
  (.seq (.ops [⟨some 37, none, .bin .eql (.t 14) (.c (.int .i64 3))⟩,
  ⟨some 36, none, .mov (.t 37)⟩])
  (c4_pianolaref15_Bus_Set)))
def c6_pianolaref15_Bus_Set : C :=
 .seq (.seq (.ops [⟨some 11, none, .mov (.t 2)⟩,
  ⟨some 12, none, .bin .rem (.t 11) (.c (.int .u32 4))⟩,
  ⟨some 13, none, .bin .neq (.t 12) (.c (.int .u32 0))⟩])
  (.cond (.t 13)
  (.seq (.ops [⟨some 10, none, .mov (.c (.bool false))⟩])
  (.ret))
  (.skip)))
  (.seq (.seq (.ops [⟨some 14, none, .mov (.t 1)⟩])
  (.block 0
  (.seq (.ops [⟨some 16, none, .bin .eql (.t 14) (.c (.int .i64 0))⟩,
  ⟨some 15, none, .mov (.t 16)⟩])
  (.cond (.t 15)
  (c0_pianolaref15_Bus_Set)
  (c5_pianolaref15_Bus_Set)))))
  (.seq (.ops [⟨some 10, none, .mov (.c (.bool false))⟩])
  (.ret)))
def c_pianolaref15_Bus_Set : C :=
 .seq (.ops [⟨some 10, none, .mov (.c (.bool false))⟩])
  (c6_pianolaref15_Bus_Set)
def f_pianolaref15_Bus_Set : F := ⟨c_pianolaref15_Bus_Set, [.t 10], some []⟩
theorem h_pianolaref15_Bus_Set : compF Try.prog (compAny Try.prog) n_pianolaref15_Bus_Set = some (f_pianolaref15_Bus_Set.body, f_pianolaref15_Bus_Set.res) := by kernel_rfl
/- (*pianola/pianolaref15.Bus).Line -/
def c0_pianolaref15_Bus_Line : C :=
 .seq (.ops [⟨some 9, none, .mov (.t 0)⟩,
  ⟨some 10, none, .mov (.t 1)⟩,
  ⟨some 11, none, .bin .sub (.t 10) (.c (.int .i64 1))⟩,
  ⟨some 12, none, .nilc (.t 9)⟩,
  ⟨some 13, none, .fa 3 (.t 12)⟩,
  ⟨some 14, none, .iaa 2 3 (.t 13) (.t 11)⟩,
  ⟨some 15, none, .fa 2 (.t 14)⟩,
  ⟨some 16, none, .ld (.t 15)⟩,
  ⟨some 17, none, .bin .neq (.t 16) (.c (.int .u32 0))⟩,
  ⟨some 4, none, .mov (.t 17)⟩])
  (.ret)
def c1_pianolaref15_Bus_Line : C :=
 .seq (.ops [⟨some 20, none, .mov (.t 0)⟩,
  ⟨some 21, none, .nilc (.t 20)⟩,
  ⟨some 22, none, .fa 9 (.t 21)⟩,
  ⟨some 23, none, .fa 3 (.t 22)⟩,
  ⟨some 24, none, .ld (.t 23)⟩,
  ⟨some 25, none, .bin .and (.t 24) (.c (.int .u32 1))⟩,
  ⟨some 26, none, .bin .neq (.t 25) (.c (.int .u32 0))⟩,
  ⟨some 27, none, .mov (.t 26)⟩,
  ⟨some 28, some (27, true), .mov (.t 0)⟩,
  ⟨some 29, some (27, true), .nilc (.t 28)⟩,
  ⟨some 30, some (27, true), .fa 9 (.t 29)⟩,
  ⟨some 31, some (27, true), .fa 0 (.t 30)⟩,
  ⟨some 32, some (27, true), .ld (.t 31)⟩,
  ⟨some 33, some (27, true), .len 1 (.t 32)⟩,
  ⟨some 34, some (27, true), .bin .gtr (.t 33) (.c (.int .i64 0))⟩,
  ⟨some 35, none, .pick (.t 27) (.t 34) (.c (.bool false))⟩,
  ⟨some 36, none, .mov (.t 35)⟩,
  ⟨some 37, some (36, false), .mov (.t 0)⟩,
  ⟨some 38, some (36, false), .nilc (.t 37)⟩,
  ⟨some 39, some (36, false), .fa 9 (.t 38)⟩,
  ⟨some 40, some (36, false), .fa 3 (.t 39)⟩,
  ⟨some 41, some (36, false), .ld (.t 40)⟩,
  ⟨some 42, some (36, false), .bin .and (.t 41) (.c (.int .u32 2))⟩,
  ⟨some 43, some (36, false), .bin .neq (.t 42) (.c (.int .u32 0))⟩,
  ⟨some 44, some (36, false), .mov (.t 43)⟩,
  ⟨some 45, some (44, true), .mov (.t 0)⟩,
  ⟨some 46, some (44, true), .nilc (.t 45)⟩,
  ⟨some 47, some (44, true), .fa 9 (.t 46)⟩,
  ⟨some 48, some (44, true), .fa 1 (.t 47)⟩,
  ⟨some 49, some (44, true), .ld (.t 48)⟩,
  ⟨some 50, some (44, true), .len 1 (.t 49)⟩,
  ⟨some 51, some (44, true), .bin .eql (.t 50) (.c (.int .i64 0))⟩,
  ⟨some 52, some (36, false), .pick (.t 44) (.t 51) (.c (.bool false))⟩,
  ⟨some 53, none, .pick (.t 36) (.c (.bool true)) (.t 52)⟩,
  ⟨some 4, none, .mov (.t 53)⟩])
  (.ret)
def c2_pianolaref15_Bus_Line : C :=
 .seq (.ops [⟨some 56, none, .mov (.t 0)⟩,
  ⟨some 57, none, .nilc (.t 56)⟩,
  ⟨some 58, none, .fa 14 (.t 57)⟩,
  ⟨some 59, none, .fa 3 (.t 58)⟩,
  ⟨some 60, none, .ld (.t 59)⟩,
  ⟨some 61, none, .bin .and (.t 60) (.c (.int .u32 6))⟩,
  ⟨some 62, none, .bin .neq (.t 61) (.c (.int .u32 0))⟩,
  ⟨some 4, none, .mov (.t 62)⟩])
  (.ret)
def c3_pianolaref15_Bus_Line : C :=
 .seq (.ops [⟨some 65, none, .mov (.t 0)⟩,
  ⟨some 66, none, .nilc (.t 65)⟩,
  ⟨some 67, none, .fa 18 (.t 66)⟩,
  ⟨some 68, none, .fa 3 (.t 67)⟩,
  ⟨some 69, none, .ld (.t 68)⟩,
  ⟨some 70, none, .bin .and (.t 69) (.c (.int .u32 6))⟩,
  ⟨some 71, none, .bin .neq (.t 70) (.c (.int .u32 0))⟩,
  ⟨some 4, none, .mov (.t 71)⟩])
  (.ret)
def c4_pianolaref15_Bus_Line : C :=
 .seq (.ops [⟨some 19, none, .bin .eql (.t 5) (.c (.int .i64 3))⟩,
  ⟨some 18, none, .mov (.t 19)⟩])
  (.cond (.t 18)
  (c1_pianolaref15_Bus_Line)
  (.seq (.ops [⟨some 55, none, .bin .eql (.t 5) (.c (.int .i64 4))⟩,
  ⟨some 54, none, .mov (.t 55)⟩])
  (.cond (.t 54)
  (c2_pianolaref15_Bus_Line)
  (.seq (.ops [⟨some 64, none, .bin .eql (.t 5) (.c (.int .i64 5))⟩,
  ⟨some 63, none, .mov (.t 64)⟩])
  (.cond (.t 63)
  (c3_pianolaref15_Bus_Line)
  (.skip))))))
def c5_pianolaref15_Bus_Line : C :=
 .seq (.seq (.ops [⟨some 5, none, .mov (.t 1)⟩])
  (.block 0
  (.seq (.seq (.ops [⟨some 7, none, .bin .eql (.t 5) (.c (.int .i64 1))⟩,
  ⟨some 6, none, .mov (.t 7)⟩])
  (.cond (.t 6)
  (.skip)
  (.ops [⟨some 8, none, .bin .eql (.t 5) (.c (.int .i64 2))⟩,
  ⟨some 6, none, .mov (.t 8)⟩])))
  (.cond (.t 6)
  (c0_pianolaref15_Bus_Line)
  (c4_pianolaref15_Bus_Line)))))
  (.seq (.ops [⟨some 4, none, .mov (.c (.bool false))⟩])
  (.ret))
def c_pianolaref15_Bus_Line : C :=
 .seq (.ops [⟨some 4, none, .mov (.c (.bool false))⟩])
  (c5_pianolaref15_Bus_Line)
def f_pianolaref15_Bus_Line : F := ⟨c_pianolaref15_Bus_Line, [.t 4], some []⟩
theorem h_pianolaref15_Bus_Line : compF Try.prog (compAny Try.prog) n_pianolaref15_Bus_Line = some (f_pianolaref15_Bus_Line.body, f_pianolaref15_Bus_Line.res) := by kernel_rfl
/- slices.stableCmpFunc[pianola/input.Key] -/
def c0_slices_stableCmpFunc_input_Key : C :=
 .block 1
  (.seq (.ops [⟨some 14, none, .mov (.t 0)⟩,
  ⟨some 15, none, .mov (.t 7)⟩,
  ⟨some 16, none, .mov (.t 8)⟩,
  ⟨some 17, none, .mov (.t 2)⟩,
  ⟨some 18, none, .call n_slices_insertionSortCmpFunc_input_Key [(.t 14), (.t 15), (.t 16), (.t 17)]⟩])
  (.seq (.ops [⟨some 19, none, .mov (.t 8)⟩,
  ⟨some 7, none, .mov (.t 19)⟩])
  (.ops [⟨some 20, none, .mov (.t 8)⟩,
  ⟨some 21, none, .mov (.t 6)⟩,
  ⟨some 22, none, .bin .add (.t 20) (.t 21)⟩,
  ⟨some 8, none, .mov (.t 22)⟩])))
def c1_slices_stableCmpFunc_input_Key : C :=
 .seq (.seq (.ops [⟨some 11, none, .mov (.t 8)⟩,
  ⟨some 12, none, .mov (.t 1)⟩,
  ⟨some 13, none, .bin .leq (.t 11) (.t 12)⟩])
  (.cond (.t 13)
  (.skip)
  (.exit 0)))
  (c0_slices_stableCmpFunc_input_Key)
def c2_slices_stableCmpFunc_input_Key : C :=
 .block 5
  (.seq (.ops [⟨some 36, none, .mov (.t 0)⟩,
  ⟨some 37, none, .mov (.t 7)⟩,
  ⟨some 38, none, .mov (.t 7)⟩,
  ⟨some 39, none, .mov (.t 6)⟩,
  ⟨some 40, none, .bin .add (.t 38) (.t 39)⟩,
  ⟨some 41, none, .mov (.t 8)⟩,
  ⟨some 42, none, .mov (.t 2)⟩,
  ⟨some 43, none, .call n_slices_symMergeCmpFunc_input_Key [(.t 36), (.t 37), (.t 40), (.t 41), (.t 42)]⟩])
  (.seq (.ops [⟨some 44, none, .mov (.t 8)⟩,
  ⟨some 7, none, .mov (.t 44)⟩])
  (.ops [⟨some 45, none, .mov (.t 8)⟩,
  ⟨some 46, none, .mov (.t 6)⟩,
  ⟨some 47, none, .bin .mul (.c (.int .i64 2)) (.t 46)⟩,
  ⟨some 48, none, .bin .add (.t 45) (.t 47)⟩,
  ⟨some 8, none, .mov (.t 48)⟩])))
def c3_slices_stableCmpFunc_input_Key : C :=
 .seq (.seq (.ops [⟨some 33, none, .mov (.t 8)⟩,
  ⟨some 34, none, .mov (.t 1)⟩,
  ⟨some 35, none, .bin .leq (.t 33) (.t 34)⟩])
  (.cond (.t 35)
  (.skip)
  (.exit 4)))
  (c2_slices_stableCmpFunc_input_Key)
def c4_slices_stableCmpFunc_input_Key : C :=
 .seq (.ops [⟨some 52, none, .mov (.t 9)⟩,
  ⟨some 53, none, .mov (.t 1)⟩,
  ⟨some 54, none, .bin .lss (.t 52) (.t 53)⟩])
  (.cond (.t 54)
  (.ops [⟨some 55, none, .mov (.t 0)⟩,
  ⟨some 56, none, .mov (.t 7)⟩,
  ⟨some 57, none, .mov (.t 9)⟩,
  ⟨some 58, none, .mov (.t 1)⟩,
  ⟨some 59, none, .mov (.t 2)⟩,
  ⟨some 60, none, .call n_slices_symMergeCmpFunc_input_Key [(.t 55), (.t 56), (.t 57), (.t 58), (.t 59)]⟩])
  (.skip))
def c5_slices_stableCmpFunc_input_Key : C :=
 .seq (.block 4
  (.loop c3_slices_stableCmpFunc_input_Key))
  (.seq (.seq (.ops [⟨some 49, none, .mov (.t 7)⟩,
  ⟨some 50, none, .mov (.t 6)⟩,
  ⟨some 51, none, .bin .add (.t 49) (.t 50)⟩,
  ⟨some 9, none, .mov (.t 51)⟩])
  (c4_slices_stableCmpFunc_input_Key))
  (.ops [⟨some 61, none, .mov (.t 6)⟩,
  ⟨some 62, none, .bin .mul (.t 61) (.c (.int .i64 2))⟩,
  ⟨some 6, none, .mov (.t 62)⟩]))
def c6_slices_stableCmpFunc_input_Key : C :=
 .seq (.seq (.ops [⟨some 28, none, .mov (.t 6)⟩,
  ⟨some 29, none, .mov (.t 1)⟩,
  ⟨some 30, none, .bin .lss (.t 28) (.t 29)⟩])
  (.cond (.t 30)
  (.skip)
  (.exit 2)))
  (.block 3
  (.seq (.ops [⟨some 31, none, .mov (.t 6)⟩,
  ⟨some 32, none, .bin .mul (.c (.int .i64 2)) (.t 31)⟩,
  ⟨some 7, none, .mov (.c (.int .i64 0))⟩,
  ⟨some 8, none, .mov (.t 32)⟩])
  (c5_slices_stableCmpFunc_input_Key)))
def c7_slices_stableCmpFunc_input_Key : C :=
 .seq (.ops [⟨some 10, none, .mov (.t 6)⟩,
  ⟨some 7, none, .mov (.c (.int .i64 0))⟩,
  ⟨some 8, none, .mov (.t 10)⟩])
  (.seq (.block 0
  (.loop c1_slices_stableCmpFunc_input_Key))
  (.seq (.ops [⟨some 23, none, .mov (.t 0)⟩,
  ⟨some 24, none, .mov (.t 7)⟩,
  ⟨some 25, none, .mov (.t 1)⟩,
  ⟨some 26, none, .mov (.t 2)⟩,
  ⟨some 27, none, .call n_slices_insertionSortCmpFunc_input_Key [(.t 23), (.t 24), (.t 25), (.t 26)]⟩])
  (.block 2
  (.loop c6_slices_stableCmpFunc_input_Key))))
def c_slices_stableCmpFunc_input_Key : C :=
 .seq (.ops [⟨some 6, none, .mov (.c (.int .i64 20))⟩])
  (c7_slices_stableCmpFunc_input_Key)
def f_slices_stableCmpFunc_input_Key : F := ⟨c_slices_stableCmpFunc_input_Key, [], some []⟩
theorem h_slices_stableCmpFunc_input_Key : compF Try.prog (compAny Try.prog) n_slices_stableCmpFunc_input_Key = some (f_slices_stableCmpFunc_input_Key.body, f_slices_stableCmpFunc_input_Key.res) := by kernel_rfl
/- cmp.isNaN[int64] -/
def c_cmp_isNaN_int64 : C :=
 .seq (.ops [⟨some 2, none, .mov (.c (.bool false))⟩])
  (.seq (.ops [⟨some 3, none, .mov (.t 0)⟩,
  ⟨some 4, none, .mov (.t 0)⟩,
  ⟨some 5, none, .bin .neq (.t 3) (.t 4)⟩,
  ⟨some 2, none, .mov (.t 5)⟩])
  (.ret))
def f_cmp_isNaN_int64 : F := ⟨c_cmp_isNaN_int64, [.t 2], some []⟩
theorem h_cmp_isNaN_int64 : compF Try.prog (compAny Try.prog) n_cmp_isNaN_int64 = some (f_cmp_isNaN_int64.body, f_cmp_isNaN_int64.res) := by kernel_rfl
/- slices.stableCmpFunc[pianola/api.Event] -/
def c0_slices_stableCmpFunc_api_Event : C :=
 .block 1
  (.seq (.ops [⟨some 14, none, .mov (.t 0)⟩,
  ⟨some 15, none, .mov (.t 7)⟩,
  ⟨some 16, none, .mov (.t 8)⟩,
  ⟨some 17, none, .mov (.t 2)⟩,
  ⟨some 18, none, .call n_slices_insertionSortCmpFunc_api_Event [(.t 14), (.t 15), (.t 16), (.t 17)]⟩])
  (.seq (.ops [⟨some 19, none, .mov (.t 8)⟩,
  ⟨some 7, none, .mov (.t 19)⟩])
  (.ops [⟨some 20, none, .mov (.t 8)⟩,
  ⟨some 21, none, .mov (.t 6)⟩,
  ⟨some 22, none, .bin .add (.t 20) (.t 21)⟩,
  ⟨some 8, none, .mov (.t 22)⟩])))
def c1_slices_stableCmpFunc_api_Event : C :=
 .seq (.seq (.ops [⟨some 11, none, .mov (.t 8)⟩,
  ⟨some 12, none, .mov (.t 1)⟩,
  ⟨some 13, none, .bin .leq (.t 11) (.t 12)⟩])
  (.cond (.t 13)
  (.skip)
  (.exit 0)))
  (c0_slices_stableCmpFunc_api_Event)
def c2_slices_stableCmpFunc_api_Event : C :=
 .block 5
  (.seq (.ops [⟨some 36, none, .mov (.t 0)⟩,
  ⟨some 37, none, .mov (.t 7)⟩,
  ⟨some 38, none, .mov (.t 7)⟩,
  ⟨some 39, none, .mov (.t 6)⟩,
  ⟨some 40, none, .bin .add (.t 38) (.t 39)⟩,
  ⟨some 41, none, .mov (.t 8)⟩,
  ⟨some 42, none, .mov (.t 2)⟩,
  ⟨some 43, none, .call n_slices_symMergeCmpFunc_api_Event [(.t 36), (.t 37), (.t 40), (.t 41), (.t 42)]⟩])
  (.seq (.ops [⟨some 44, none, .mov (.t 8)⟩,
  ⟨some 7, none, .mov (.t 44)⟩])
  (.ops [⟨some 45, none, .mov (.t 8)⟩,
  ⟨some 46, none, .mov (.t 6)⟩,
  ⟨some 47, none, .bin .mul (.c (.int .i64 2)) (.t 46)⟩,
  ⟨some 48, none, .bin .add (.t 45) (.t 47)⟩,
  ⟨some 8, none, .mov (.t 48)⟩])))
def c3_slices_stableCmpFunc_api_Event : C :=
 .seq (.seq (.ops [⟨some 33, none, .mov (.t 8)⟩,
  ⟨some 34, none, .mov (.t 1)⟩,
  ⟨some 35, none, .bin .leq (.t 33) (.t 34)⟩])
  (.cond (.t 35)
  (.skip)
  (.exit 4)))
  (c2_slices_stableCmpFunc_api_Event)
def c4_slices_stableCmpFunc_api_Event : C :=
 .seq (.ops [⟨some 52, none, .mov (.t 9)⟩,
  ⟨some 53, none, .mov (.t 1)⟩,
  ⟨some 54, none, .bin .lss (.t 52) (.t 53)⟩])
  (.cond (.t 54)
  (.ops [⟨some 55, none, .mov (.t 0)⟩,
  ⟨some 56, none, .mov (.t 7)⟩,
  ⟨some 57, none, .mov (.t 9)⟩,
  ⟨some 58, none, .mov (.t 1)⟩,
  ⟨some 59, none, .mov (.t 2)⟩,
  ⟨some 60, none, .call n_slices_symMergeCmpFunc_api_Event [(.t 55), (.t 56), (.t 57), (.t 58), (.t 59)]⟩])
  (.skip))
def c5_slices_stableCmpFunc_api_Event : C :=
 .seq (.block 4
  (.loop c3_slices_stableCmpFunc_api_Event))
  (.seq (.seq (.ops [⟨some 49, none, .mov (.t 7)⟩,
  ⟨some 50, none, .mov (.t 6)⟩,
  ⟨some 51, none, .bin .add (.t 49) (.t 50)⟩,
  ⟨some 9, none, .mov (.t 51)⟩])
  (c4_slices_stableCmpFunc_api_Event))
  (.ops [⟨some 61, none, .mov (.t 6)⟩,
  ⟨some 62, none, .bin .mul (.t 61) (.c (.int .i64 2))⟩,
  ⟨some 6, none, .mov (.t 62)⟩]))
def c6_slices_stableCmpFunc_api_Event : C :=
 .seq (.seq (.ops [⟨some 28, none, .mov (.t 6)⟩,
  ⟨some 29, none, .mov (.t 1)⟩,
  ⟨some 30, none, .bin .lss (.t 28) (.t 29)⟩])
  (.cond (.t 30)
  (.skip)
  (.exit 2)))
  (.block 3
  (.seq (.ops [⟨some 31, none, .mov (.t 6)⟩,
  ⟨some 32, none, .bin .mul (.c (.int .i64 2)) (.t 31)⟩,
  ⟨some 7, none, .mov (.c (.int .i64 0))⟩,
  ⟨some 8, none, .mov (.t 32)⟩])
  (c5_slices_stableCmpFunc_api_Event)))
def c7_slices_stableCmpFunc_api_Event : C :=
 .seq (.ops [⟨some 10, none, .mov (.t 6)⟩,
  ⟨some 7, none, .mov (.c (.int .i64 0))⟩,
  ⟨some 8, none, .mov (.t 10)⟩])
  (.seq (.block 0
  (.loop c1_slices_stableCmpFunc_api_Event))
  (.seq (.ops [⟨some 23, none, .mov (.t 0)⟩,
  ⟨some 24, none, .mov (.t 7)⟩,
  ⟨some 25, none, .mov (.t 1)⟩,
  ⟨some 26, none, .mov (.t 2)⟩,
  ⟨some 27, none, .call n_slices_insertionSortCmpFunc_api_Event [(.t 23), (.t 24), (.t 25), (.t 26)]⟩])
  (.block 2
  (.loop c6_slices_stableCmpFunc_api_Event))))
def c_slices_stableCmpFunc_api_Event : C :=
 .seq (.ops [⟨some 6, none, .mov (.c (.int .i64 20))⟩])
  (c7_slices_stableCmpFunc_api_Event)
def f_slices_stableCmpFunc_api_Event : F := ⟨c_slices_stableCmpFunc_api_Event, [], some []⟩
theorem h_slices_stableCmpFunc_api_Event : compF Try.prog (compAny Try.prog) n_slices_stableCmpFunc_api_Event = some (f_slices_stableCmpFunc_api_Event.body, f_slices_stableCmpFunc_api_Event.res) := by kernel_rfl
/- slices.IndexFunc[[]pianola/api.Event,pianola/api.Event] -/
def c0_slices_IndexFunc_api_Event_api_Event : C :=
 .seq (.ops [⟨some 11, none, .mov (.t 1)⟩,
  ⟨some 12, none, .mov (.t 0)⟩,
  ⟨some 13, none, .mov (.t 5)⟩,
  ⟨some 14, none, .ia 3 (.t 12) (.t 13)⟩,
  ⟨some 15, none, .ldn 3 (.t 14)⟩,
  ⟨some 16, none, .callv (.t 11) [(.t 15)]⟩])
  (.cond (.t 16)
  (.seq (.ops [⟨some 17, none, .mov (.t 5)⟩,
  ⟨some 4, none, .mov (.t 17)⟩])
  (.ret))
  (.skip))
def c1_slices_IndexFunc_api_Event_api_Event : C :=
 .seq (.ops [⟨some 9, none, .bin .lss (.t 8) (.t 7)⟩])
  (.seq (.cond (.t 9)
  (.skip)
  (.exit 0))
  (.seq (.block 1
  (.seq (.ops [⟨some 10, none, .mov (.t 8)⟩,
  ⟨some 5, none, .mov (.t 10)⟩])
  (c0_slices_IndexFunc_api_Event_api_Event)))
  (.ops [⟨some 18, none, .bin .add (.t 8) (.c (.int .i64 1))⟩,
  ⟨some 8, none, .mov (.t 18)⟩])))
def c_slices_IndexFunc_api_Event_api_Event : C :=
 .seq (.ops [⟨some 4, none, .mov (.c (.int .i64 0))⟩])
  (.seq (.seq (.ops [⟨some 6, none, .mov (.t 0)⟩,
  ⟨some 7, none, .len 1 (.t 6)⟩,
  ⟨some 8, none, .mov (.c (.int .i64 0))⟩])
  (.block 0
  (.loop c1_slices_IndexFunc_api_Event_api_Event)))
  (.seq (.ops [⟨some 4, none, .mov (.c (.int .i64 (-1)))⟩])
  (.ret)))
def f_slices_IndexFunc_api_Event_api_Event : F := ⟨c_slices_IndexFunc_api_Event_api_Event, [.t 4], some []⟩
theorem h_slices_IndexFunc_api_Event_api_Event : compF Try.prog (compAny Try.prog) n_slices_IndexFunc_api_Event_api_Event = some (f_slices_IndexFunc_api_Event_api_Event.body, f_slices_IndexFunc_api_Event_api_Event.res) := by kernel_rfl
/- (*pianola/wheel.Wheel).find$1 -/
def c_wheel_Wheel_find_1 : C :=
 .seq (.ops [⟨some 2, none, .box (.t 0)⟩,
  ⟨some 3, none, .mov (.c (.bool false))⟩])
  (.seq (.ops [⟨some 4, none, .fa 1 (.t 2)⟩,
  ⟨some 5, none, .ld (.t 4)⟩,
  ⟨some 6, none, .ld (.t 1)⟩,
  ⟨some 7, none, .bin .eql (.t 5) (.t 6)⟩,
  ⟨some 3, none, .mov (.t 7)⟩])
  (.ret))
def f_wheel_Wheel_find_1 : F := ⟨c_wheel_Wheel_find_1, [.t 3], some []⟩
theorem h_wheel_Wheel_find_1 : compF Try.prog (compAny Try.prog) n_wheel_Wheel_find_1 = some (f_wheel_Wheel_find_1.body, f_wheel_Wheel_find_1.res) := by kernel_rfl
/- pianola/pianolaref2.New -/
def c0_pianolaref2_New : C :=
 .seq (.any 4 [.op 0 ⟨some 7, none, .mov (.t 3)⟩,
  .op 1 ⟨some 8, none, .bin .mul (.t 7) (.c (.int .i64 1024))⟩,
  .al 2 0 ⟨some 9, none, .mks [(.int .u8 0)] 1 (.t 8) (.t 8)⟩,
  .op 3 ⟨some 10, none, .mov (.t 3)⟩,
  .al 4 1 ⟨some 11, none, .mks [(.bool false)] 1 (.t 10) (.t 10)⟩,
  .op 5 ⟨some 12, none, .mov (.t 3)⟩,
  .al 6 2 ⟨some 13, none, .mks [(.bool false)] 1 (.t 12) (.t 12)⟩,
  .op 7 ⟨some 14, none, .build [(.slice none 0 0), (.slice none 0 0), (.slice none 0 0)] [(0, 1, (.t 9)), (1, 1, (.t 11)), (2, 1, (.t 13))]⟩,
  .al 8 3 ⟨some 15, none, .box (.t 14)⟩,
  .op 9 ⟨some 2, none, .mov (.t 15)⟩])
  (.ret)
def c_pianolaref2_New : C :=
 .seq (.ops [⟨some 2, none, .mov (.c (.pointer none))⟩])
  (.seq (.ops [⟨some 4, none, .mov (.t 0)⟩,
  ⟨some 5, none, .mn (.t 4) (.c (.int .i64 64))⟩,
  ⟨some 6, none, .mx (.t 5) (.c (.int .i64 1))⟩,
  ⟨some 3, none, .mov (.t 6)⟩])
  (c0_pianolaref2_New))
def f_pianolaref2_New : F := ⟨c_pianolaref2_New, [.t 2], some []⟩
theorem h_pianolaref2_New : compF Try.prog (compAny Try.prog) n_pianolaref2_New = some (f_pianolaref2_New.body, f_pianolaref2_New.res) := by kernel_rfl
/- pianola/pianolaref15.bit -/
def c_pianolaref15_bit : C :=
 .seq (.ops [⟨some 4, none, .mov (.c (.int .u32 0))⟩])
  (.seq (.seq (.ops [⟨some 5, none, .mov (.t 0)⟩])
  (.cond (.t 5)
  (.seq (.ops [⟨some 6, none, .mov (.t 1)⟩,
  ⟨some 7, none, .bin .shl (.c (.int .u32 1)) (.t 6)⟩,
  ⟨some 4, none, .mov (.t 7)⟩])
  (.ret))
  (.skip)))
  (.seq (.ops [⟨some 4, none, .mov (.c (.int .u32 0))⟩])
  (.ret)))
def f_pianolaref15_bit : F := ⟨c_pianolaref15_bit, [.t 4], some []⟩
theorem h_pianolaref15_bit : compF Try.prog (compAny Try.prog) n_pianolaref15_bit = some (f_pianolaref15_bit.body, f_pianolaref15_bit.res) := by kernel_rfl
/- (*pianola/pianolaref15.Bus).move -/
def c0_pianolaref15_Bus_move : C :=
 .seq (.ops [⟨some 56, none, .mov (.t 2)⟩,
  ⟨some 57, none, .mov (.t 2)⟩,
  ⟨some 58, none, .nilc (.t 57)⟩,
  ⟨some 59, none, .fa 3 (.t 58)⟩,
  ⟨some 60, none, .ld (.t 59)⟩,
  ⟨some 61, none, .bin .or (.t 60) (.c (.int .u32 4))⟩,
  ⟨some 62, none, .nilc (.t 56)⟩,
  ⟨some 63, none, .fa 3 (.t 62)⟩,
  ⟨none, none, .st (.t 63) (.t 61)⟩])
  (.ret)
def c1_pianolaref15_Bus_move : C :=
 .any 0 [.op 0 ⟨some 81, none, .mov (.t 0)⟩,
  .op 1 ⟨some 82, none, .nilc (.t 81)⟩,
  .op 2 ⟨some 83, none, .fa 0 (.t 82)⟩,
  .op 3 ⟨some 84, none, .ld (.t 83)⟩,
  .op 4 ⟨some 85, none, .mov (.t 2)⟩,
  .op 5 ⟨some 86, none, .nilc (.t 85)⟩,
  .op 6 ⟨some 87, none, .fa 1 (.t 86)⟩,
  .op 7 ⟨some 88, none, .ld (.t 87)⟩,
  .op 8 ⟨some 89, none, .mov (.t 3)⟩,
  .op 9 ⟨some 90, none, .call n_pianolaref2_Ram_Put [(.t 84), (.t 88), (.t 89)]⟩]
def c2_pianolaref15_Bus_move : C :=
 .seq (.any 0 [.op 0 ⟨some 65, none, .mov (.t 0)⟩,
  .op 1 ⟨some 66, none, .nilc (.t 65)⟩,
  .op 2 ⟨some 67, none, .fa 0 (.t 66)⟩,
  .op 3 ⟨some 68, none, .ld (.t 67)⟩,
  .op 4 ⟨some 69, none, .mov (.t 2)⟩,
  .op 5 ⟨some 70, none, .nilc (.t 69)⟩,
  .op 6 ⟨some 71, none, .fa 0 (.t 70)⟩,
  .op 7 ⟨some 72, none, .ld (.t 71)⟩,
  .op 8 ⟨some 73, none, .mov (.t 2)⟩,
  .op 9 ⟨some 74, none, .nilc (.t 73)⟩,
  .op 10 ⟨some 75, none, .fa 2 (.t 74)⟩,
  .op 11 ⟨some 76, none, .ld (.t 75)⟩,
  .op 12 ⟨some 77, none, .conv .i64 (.t 76)⟩,
  .op 13 ⟨some 78, none, .call n_pianolaref2_Ram_Bytes [(.t 68), (.t 72), (.t 77)]⟩,
  .op 14 ⟨some 64, none, .mov (.t 78)⟩,
  .op 15 ⟨some 79, none, .ext (.t 64) 0⟩,
  .op 16 ⟨some 80, none, .ext (.t 64) 1⟩,
  .op 17 ⟨some 3, none, .mov (.t 79)⟩,
  .op 18 ⟨some 4, none, .mov (.t 80)⟩])
  (c1_pianolaref15_Bus_move)
def c3_pianolaref15_Bus_move : C :=
 .seq (.seq (.any 0 [.op 0 ⟨some 17, none, .mov (.t 2)⟩,
  .op 1 ⟨some 18, none, .nilc (.t 17)⟩,
  .op 2 ⟨some 19, none, .fa 2 (.t 18)⟩,
  .op 3 ⟨some 20, none, .ld (.t 19)⟩,
  .op 4 ⟨some 21, none, .bin .gtr (.t 20) (.c (.int .u32 4096))⟩,
  .op 5 ⟨some 22, none, .mov (.t 21)⟩,
  .op 6 ⟨some 23, some (22, false), .mov (.t 0)⟩,
  .op 7 ⟨some 24, some (22, false), .nilc (.t 23)⟩,
  .op 8 ⟨some 25, some (22, false), .fa 0 (.t 24)⟩,
  .op 9 ⟨some 26, some (22, false), .ld (.t 25)⟩,
  .op 10 ⟨some 27, some (22, false), .mov (.t 2)⟩,
  .op 11 ⟨some 28, some (22, false), .nilc (.t 27)⟩,
  .op 12 ⟨some 29, some (22, false), .fa 0 (.t 28)⟩,
  .op 13 ⟨some 30, some (22, false), .ld (.t 29)⟩,
  .op 14 ⟨some 31, some (22, false), .mov (.t 2)⟩,
  .op 15 ⟨some 32, some (22, false), .nilc (.t 31)⟩,
  .op 16 ⟨some 33, some (22, false), .fa 2 (.t 32)⟩,
  .op 17 ⟨some 34, some (22, false), .ld (.t 33)⟩,
  .op 18 ⟨some 35, some (22, false), .conv .i64 (.t 34)⟩,
  .op 19 ⟨some 36, some (22, false), .call n_pianolaref2_Ram_In [(.t 26), (.t 30), (.t 35)]⟩,
  .op 20 ⟨some 37, some (22, false), .un .not (.t 36)⟩,
  .op 21 ⟨some 38, none, .pick (.t 22) (.c (.bool true)) (.t 37)⟩,
  .op 22 ⟨some 39, none, .mov (.t 38)⟩,
  .op 23 ⟨some 40, some (39, false), .mov (.t 0)⟩,
  .op 24 ⟨some 41, some (39, false), .nilc (.t 40)⟩,
  .op 25 ⟨some 42, some (39, false), .fa 0 (.t 41)⟩,
  .op 26 ⟨some 43, some (39, false), .ld (.t 42)⟩,
  .op 27 ⟨some 44, some (39, false), .mov (.t 2)⟩,
  .op 28 ⟨some 45, some (39, false), .nilc (.t 44)⟩,
  .op 29 ⟨some 46, some (39, false), .fa 1 (.t 45)⟩,
  .op 30 ⟨some 47, some (39, false), .ld (.t 46)⟩,
  .op 31 ⟨some 48, some (39, false), .mov (.t 2)⟩,
  .op 32 ⟨some 49, some (39, false), .nilc (.t 48)⟩,
  .op 33 ⟨some 50, some (39, false), .fa 2 (.t 49)⟩,
  .op 34 ⟨some 51, some (39, false), .ld (.t 50)⟩,
  .op 35 ⟨some 52, some (39, false), .conv .i64 (.t 51)⟩,
  .op 36 ⟨some 53, some (39, false), .call n_pianolaref2_Ram_In [(.t 43), (.t 47), (.t 52)]⟩,
  .op 37 ⟨some 54, some (39, false), .un .not (.t 53)⟩,
  .op 38 ⟨some 55, none, .pick (.t 39) (.c (.bool true)) (.t 54)⟩])
  (.cond (.t 55)
  (c0_pianolaref15_Bus_move)
  (.skip)))
  (c2_pianolaref15_Bus_move)
def c4_pianolaref15_Bus_move : C :=
 .seq (.ops [⟨some 8, none, .mov (.t 2)⟩,
  ⟨some 9, none, .mov (.t 2)⟩,
  ⟨some 10, none, .nilc (.t 9)⟩,
  ⟨some 11, none, .fa 3 (.t 10)⟩,
  ⟨some 12, none, .ld (.t 11)⟩,
  ⟨some 13, none, .bin .andNot (.t 12) (.c (.int .u32 1))⟩,
  ⟨some 14, none, .bin .or (.t 13) (.c (.int .u32 2))⟩,
  ⟨some 15, none, .nilc (.t 8)⟩,
  ⟨some 16, none, .fa 3 (.t 15)⟩,
  ⟨none, none, .st (.t 16) (.t 14)⟩])
  (c3_pianolaref15_Bus_move)
def c_pianolaref15_Bus_move : C :=
 .seq (.ops [⟨some 5, none, .mov (.t 0)⟩,
  ⟨some 6, none, .nilc (.t 5)⟩,
  ⟨some 7, none, .fa 14 (.t 6)⟩,
  ⟨some 2, none, .mov (.t 7)⟩])
  (c4_pianolaref15_Bus_move)
def f_pianolaref15_Bus_move : F := ⟨c_pianolaref15_Bus_move, [], some []⟩
theorem h_pianolaref15_Bus_move : compF Try.prog (compAny Try.prog) n_pianolaref15_Bus_move = some (f_pianolaref15_Bus_move.body, f_pianolaref15_Bus_move.res) := by kernel_rfl
end Go.Proofs.Ytppgoobhlcdbbaa.Cd
