/- The code of the functions that are reached, as the interpreter reads it. -/
import Derived.Test.YtppgoobhlcdbbaaCd1
set_option maxRecDepth 100000
set_option linter.defProp false
namespace Go.Proofs.Ytppgoobhlcdbbaa.Cd
open Go Go.Dx
/- (*pianola/lines.Lines).Read -/
def c0_lines_Lines_Read : C :=
 .seq (.ops [⟨some 26, none, .bin .eql (.t 8) (.c (.int .u32 12))⟩,
  ⟨some 25, none, .mov (.t 26)⟩])
  (.cond (.t 25)
  (.seq (.ops [⟨some 27, none, .mov (.t 2)⟩,
  ⟨some 28, none, .bin .shr (.t 27) (.c (.int .u64 32))⟩,
  ⟨some 29, none, .conv .u32 (.t 28)⟩,
  ⟨some 6, none, .mov (.t 29)⟩,
  ⟨some 7, none, .mov (.c (.bool true))⟩])
  (.ret))
  (.skip))
def c1_lines_Lines_Read : C :=
 .cond (.t 15)
  (.seq (.ops [⟨some 17, none, .mov (.t 0)⟩,
  ⟨some 18, none, .nilc (.t 17)⟩,
  ⟨some 19, none, .fa 1 (.t 18)⟩,
  ⟨some 20, none, .ld (.t 19)⟩,
  ⟨some 6, none, .mov (.t 20)⟩,
  ⟨some 7, none, .mov (.c (.bool true))⟩])
  (.ret))
  (.seq (.ops [⟨some 22, none, .bin .eql (.t 8) (.c (.int .u32 8))⟩,
  ⟨some 21, none, .mov (.t 22)⟩])
  (.cond (.t 21)
  (.seq (.ops [⟨some 23, none, .mov (.t 2)⟩,
  ⟨some 24, none, .conv .u32 (.t 23)⟩,
  ⟨some 6, none, .mov (.t 24)⟩,
  ⟨some 7, none, .mov (.c (.bool true))⟩])
  (.ret))
  (c0_lines_Lines_Read)))
def c2_lines_Lines_Read : C :=
 .cond (.t 9)
  (.seq (.ops [⟨some 11, none, .mov (.t 0)⟩,
  ⟨some 12, none, .nilc (.t 11)⟩,
  ⟨some 13, none, .fa 0 (.t 12)⟩,
  ⟨some 14, none, .ld (.t 13)⟩,
  ⟨some 6, none, .mov (.t 14)⟩,
  ⟨some 7, none, .mov (.c (.bool true))⟩])
  (.ret))
  (.seq (.ops [⟨some 16, none, .bin .eql (.t 8) (.c (.int .u32 4))⟩,
  ⟨some 15, none, .mov (.t 16)⟩])
  (c1_lines_Lines_Read))
def c_lines_Lines_Read : C :=
 .seq (.ops [⟨some 6, none, .mov (.c (.int .u32 0))⟩,
  ⟨some 7, none, .mov (.c (.bool false))⟩])
  (.seq (.seq (.ops [⟨some 8, none, .mov (.t 1)⟩])
  (.block 0
  (.seq (.ops [⟨some 10, none, .bin .eql (.t 8) (.c (.int .u32 0))⟩,
  ⟨some 9, none, .mov (.t 10)⟩])
  (c2_lines_Lines_Read))))
  (.seq (.ops [⟨some 6, none, .mov (.c (.int .u32 0))⟩,
  ⟨some 7, none, .mov (.c (.bool false))⟩])
  (.ret)))
def f_lines_Lines_Read : F := ⟨c_lines_Lines_Read, [.t 6, .t 7], some []⟩
theorem h_lines_Lines_Read : compF Try.prog (compAny Try.prog) n_lines_Lines_Read = some (f_lines_Lines_Read.body, f_lines_Lines_Read.res) := by kernel_rfl
/- (*pianola/lines.Lines).Raised -/
def c0_lines_Lines_Raised : C :=
 .seq (.any 0 [.op 0 ⟨some 3, none, .mov (.t 0)⟩,
  .op 1 ⟨some 4, none, .nilc (.t 3)⟩,
  .op 2 ⟨some 5, none, .fa 0 (.t 4)⟩,
  .op 3 ⟨some 6, none, .ld (.t 5)⟩,
  .op 4 ⟨some 7, none, .mov (.t 0)⟩,
  .op 5 ⟨some 8, none, .nilc (.t 7)⟩,
  .op 6 ⟨some 9, none, .fa 1 (.t 8)⟩,
  .op 7 ⟨some 10, none, .ld (.t 9)⟩,
  .op 8 ⟨some 11, none, .bin .and (.t 6) (.t 10)⟩,
  .op 9 ⟨some 12, none, .bin .neq (.t 11) (.c (.int .u32 0))⟩,
  .op 10 ⟨some 2, none, .mov (.t 12)⟩])
  (.ret)
def c_lines_Lines_Raised : C :=
 .seq (.ops [⟨some 2, none, .mov (.c (.bool false))⟩])
  (c0_lines_Lines_Raised)
def f_lines_Lines_Raised : F := ⟨c_lines_Lines_Raised, [.t 2], some []⟩
theorem h_lines_Lines_Raised : compF Try.prog (compAny Try.prog) n_lines_Lines_Raised = some (f_lines_Lines_Raised.body, f_lines_Lines_Raised.res) := by kernel_rfl
/- pianola/input.New -/
def c0_input_New : C :=
 .seq (.ops [⟨some 4, none, .mov (.t 0)⟩,
  ⟨some 5, none, .mov (.t 0)⟩,
  ⟨some 6, none, .len 1 (.t 5)⟩,
  ⟨some 7, none, .mn (.t 6) (.c (.int .i64 256))⟩,
  ⟨some 8, none, .sl 2 (.t 4) none (some (.t 7)) none⟩,
  ⟨some 9, none, .call n_slices_Clone_input_Key_input_Key [(.t 8)]⟩,
  ⟨some 10, none, .build [(.slice none 0 0)] [(0, 1, (.t 9))]⟩,
  ⟨some 11, none, .box (.t 10)⟩,
  ⟨some 3, none, .mov (.t 11)⟩])
  (.seq (.ops [⟨some 12, none, .mov (.t 3)⟩,
  ⟨some 13, none, .nilc (.t 12)⟩,
  ⟨some 14, none, .fa 0 (.t 13)⟩,
  ⟨some 15, none, .ld (.t 14)⟩,
  ⟨some 16, none, .call n_slices_SortStableFunc_input_Key_input_Key [(.t 15), (.f n_input_New_1)]⟩])
  (.seq (.ops [⟨some 17, none, .mov (.t 3)⟩,
  ⟨some 2, none, .mov (.t 17)⟩])
  (.ret)))
def c_input_New : C :=
 .seq (.ops [⟨some 2, none, .mov (.c (.pointer none))⟩])
  (c0_input_New)
def f_input_New : F := ⟨c_input_New, [.t 2], some []⟩
theorem h_input_New : compF Try.prog (compAny Try.prog) n_input_New = some (f_input_New.body, f_input_New.res) := by kernel_rfl
/- (*pianola/input.Plan).Left -/
def c_input_Plan_Left : C :=
 .seq (.ops [⟨some 2, none, .mov (.c (.int .i64 0))⟩])
  (.seq (.ops [⟨some 3, none, .mov (.t 0)⟩,
  ⟨some 4, none, .nilc (.t 3)⟩,
  ⟨some 5, none, .fa 0 (.t 4)⟩,
  ⟨some 6, none, .ld (.t 5)⟩,
  ⟨some 7, none, .len 1 (.t 6)⟩,
  ⟨some 2, none, .mov (.t 7)⟩])
  (.ret))
def f_input_Plan_Left : F := ⟨c_input_Plan_Left, [.t 2], some []⟩
theorem h_input_Plan_Left : compF Try.prog (compAny Try.prog) n_input_Plan_Left = some (f_input_Plan_Left.body, f_input_Plan_Left.res) := by kernel_rfl
/- pianola/pianolalaw24.known -/
def c0_pianolalaw24_known : C :=
 .seq (.ops [⟨some 31, none, .mov (.t 2)⟩,
  ⟨some 32, none, .bin .eql (.t 31) (.c (.int .i64 2))⟩,
  ⟨some 33, none, .mov (.t 32)⟩,
  ⟨some 34, some (33, true), .mov (.t 3)⟩,
  ⟨some 35, none, .pick (.t 33) (.t 34) (.c (.bool false))⟩,
  ⟨some 36, none, .mov (.t 35)⟩,
  ⟨some 37, some (36, true), .mov (.t 4)⟩,
  ⟨some 38, some (36, true), .b2s (.t 37)⟩,
  ⟨some 39, some (36, true), .bin .eql (.t 38) (.c (.string ⟨#[98, 97]⟩))⟩,
  ⟨some 40, none, .pick (.t 36) (.t 39) (.c (.bool false))⟩,
  ⟨some 41, none, .mov (.t 40)⟩,
  ⟨some 42, some (41, true), .mov (.t 6)⟩,
  ⟨some 43, some (41, true), .un .not (.t 42)⟩,
  ⟨some 44, none, .pick (.t 41) (.t 43) (.c (.bool false))⟩,
  ⟨some 45, none, .mov (.t 44)⟩,
  ⟨some 46, some (45, true), .mov (.t 1)⟩,
  ⟨some 47, some (45, true), .call n_input_Plan_Left [(.t 46)]⟩,
  ⟨some 48, some (45, true), .bin .eql (.t 47) (.c (.int .i64 0))⟩,
  ⟨some 49, none, .pick (.t 45) (.t 48) (.c (.bool false))⟩,
  ⟨some 0, none, .mov (.t 49)⟩])
  (.ret)
def c1_pianolalaw24_known : C :=
 .seq (.ops [⟨some 24, none, .mov (.t 1)⟩,
  ⟨some 25, none, .call n_input_Plan_Take [(.t 24), (.c (.int .i64 9))]⟩,
  ⟨some 4, none, .mov (.t 25)⟩])
  (.seq (.ops [⟨some 27, none, .mov (.t 1)⟩,
  ⟨some 28, none, .call n_input_Plan_Next [(.t 27)]⟩,
  ⟨some 26, none, .mov (.t 28)⟩,
  ⟨some 29, none, .ext (.t 26) 0⟩,
  ⟨some 30, none, .ext (.t 26) 1⟩,
  ⟨some 5, none, .mov (.t 29)⟩,
  ⟨some 6, none, .mov (.t 30)⟩])
  (c0_pianolalaw24_known))
def c2_pianolalaw24_known : C :=
 .seq (.seq (.ops [⟨some 11, none, .mov (.t 1)⟩,
  ⟨some 12, none, .eqn 0 false (.t 11)⟩,
  ⟨some 13, none, .mov (.t 12)⟩,
  ⟨some 14, some (13, false), .mov (.t 1)⟩,
  ⟨some 15, some (13, false), .call n_input_Plan_Take [(.t 14), (.c (.int .i64 1))]⟩,
  ⟨some 16, some (13, false), .len 1 (.t 15)⟩,
  ⟨some 17, some (13, false), .bin .neq (.t 16) (.c (.int .i64 0))⟩,
  ⟨some 18, none, .pick (.t 13) (.c (.bool true)) (.t 17)⟩])
  (.cond (.t 18)
  (.seq (.ops [⟨some 0, none, .mov (.c (.bool false))⟩])
  (.ret))
  (.skip)))
  (.seq (.ops [⟨some 20, none, .mov (.t 1)⟩,
  ⟨some 21, none, .call n_input_Plan_Next [(.t 20)]⟩,
  ⟨some 19, none, .mov (.t 21)⟩,
  ⟨some 22, none, .ext (.t 19) 0⟩,
  ⟨some 23, none, .ext (.t 19) 1⟩,
  ⟨some 2, none, .mov (.t 22)⟩,
  ⟨some 3, none, .mov (.t 23)⟩])
  (c1_pianolalaw24_known))
def c3_pianolalaw24_known : C :=
 .seq (.ops [⟨some 7, none, .build [(.int .i64 0), (.int .u8 0)] [(0, 1, (.c (.int .i64 5))), (1, 1, (.c (.int .u8 97)))]⟩,
  ⟨some 8, none, .build [(.int .i64 0), (.int .u8 0)] [(0, 1, (.c (.int .i64 2))), (1, 1, (.c (.int .u8 98)))]⟩,
  ⟨some 9, none, .bsl 2 [(.int .i64 0), (.int .u8 0), (.int .i64 0), (.int .u8 0)] [(0, 2, (.t 7)), (2, 2, (.t 8))]⟩,
  ⟨some 10, none, .call n_input_New [(.t 9)]⟩,
  ⟨some 1, none, .mov (.t 10)⟩])
  (c2_pianolalaw24_known)
def c_pianolalaw24_known : C :=
 .seq (.ops [⟨some 0, none, .mov (.c (.bool false))⟩])
  (c3_pianolalaw24_known)
def f_pianolalaw24_known : F := ⟨c_pianolalaw24_known, [.t 0], some []⟩
theorem h_pianolalaw24_known : compF Try.prog (compAny Try.prog) n_pianolalaw24_known = some (f_pianolalaw24_known.body, f_pianolalaw24_known.res) := by kernel_rfl
/- pianola/pianolabook.Roomy[pianola/input.Key] -/
def c0_pianolabook_Roomy_input_Key : C :=
 .seq (.block 1
  (.ops [⟨some 22, none, .mov (.t 5)⟩,
  ⟨some 23, none, .mov (.t 6)⟩,
  ⟨some 24, none, .ldn 2 (.t 3)⟩,
  ⟨some 25, none, .ia 2 (.t 22) (.t 23)⟩,
  ⟨none, none, .stn 2 (.t 25) (.t 24)⟩]))
  (.ops [⟨some 20, none, .mov (.t 6)⟩,
  ⟨some 21, none, .bin .add (.t 20) (.c (.int .i64 1))⟩,
  ⟨some 6, none, .mov (.t 21)⟩])
def c1_pianolabook_Roomy_input_Key : C :=
 .seq (.seq (.ops [⟨some 16, none, .mov (.t 6)⟩,
  ⟨some 17, none, .mov (.t 5)⟩,
  ⟨some 18, none, .len 1 (.t 17)⟩,
  ⟨some 19, none, .bin .lss (.t 16) (.t 18)⟩])
  (.cond (.t 19)
  (.skip)
  (.exit 0)))
  (c0_pianolabook_Roomy_input_Key)
def c2_pianolabook_Roomy_input_Key : C :=
 .seq (.ops [⟨some 11, none, .mov (.t 5)⟩,
  ⟨some 12, none, .mov (.t 0)⟩,
  ⟨some 13, none, .cpy 2 (.t 11) (.t 12)⟩])
  (.seq (.seq (.ops [⟨some 14, none, .mov (.t 0)⟩,
  ⟨some 15, none, .len 1 (.t 14)⟩,
  ⟨some 6, none, .mov (.t 15)⟩])
  (.block 0
  (.loop c1_pianolabook_Roomy_input_Key)))
  (.seq (.ops [⟨some 26, none, .mov (.t 5)⟩,
  ⟨some 4, none, .mov (.t 26)⟩])
  (.ret)))
def c_pianolabook_Roomy_input_Key : C :=
 .seq (.ops [⟨some 3, none, .box (.t 1)⟩,
  ⟨some 4, none, .mov (.c (.slice none 0 0))⟩])
  (.seq (.ops [⟨some 7, none, .mov (.t 0)⟩,
  ⟨some 8, none, .len 1 (.t 7)⟩,
  ⟨some 9, none, .bin .add (.t 8) (.c (.int .i64 80))⟩,
  ⟨some 10, none, .mks [(.int .i64 0), (.int .u8 0)] 16 (.t 9) (.t 9)⟩,
  ⟨some 5, none, .mov (.t 10)⟩])
  (c2_pianolabook_Roomy_input_Key))
def f_pianolabook_Roomy_input_Key : F := ⟨c_pianolabook_Roomy_input_Key, [.t 4], some []⟩
theorem h_pianolabook_Roomy_input_Key : compF Try.prog (compAny Try.prog) n_pianolabook_Roomy_input_Key = some (f_pianolabook_Roomy_input_Key.body, f_pianolabook_Roomy_input_Key.res) := by kernel_rfl
/- pianola/pianolalaw24.sorted -/
def c0_pianolalaw24_sorted : C :=
 .seq (.seq (.any 0 [.op 0 ⟨some 18, none, .mov (.t 5)⟩,
  .op 1 ⟨some 19, none, .bin .gtr (.t 18) (.c (.int .i64 0))⟩,
  .op 2 ⟨some 20, none, .mov (.t 19)⟩,
  .op 3 ⟨some 21, some (20, true), .mov (.t 3)⟩,
  .op 4 ⟨some 22, some (20, true), .mov (.t 5)⟩,
  .op 5 ⟨some 23, some (20, true), .bin .sub (.t 22) (.c (.int .i64 1))⟩,
  .op 6 ⟨some 24, some (20, true), .ia 2 (.t 21) (.t 23)⟩,
  .op 7 ⟨some 25, some (20, true), .fa 0 (.t 24)⟩,
  .op 8 ⟨some 26, some (20, true), .ld (.t 25)⟩,
  .op 9 ⟨some 27, some (20, true), .mov (.t 0)⟩,
  .op 10 ⟨some 28, some (20, true), .mov (.t 4)⟩,
  .op 11 ⟨some 29, some (20, true), .ia 2 (.t 27) (.t 28)⟩,
  .op 12 ⟨some 30, some (20, true), .fa 0 (.t 29)⟩,
  .op 13 ⟨some 31, some (20, true), .ld (.t 30)⟩,
  .op 14 ⟨some 32, some (20, true), .bin .gtr (.t 26) (.t 31)⟩,
  .op 15 ⟨some 33, none, .pick (.t 20) (.t 32) (.c (.bool false))⟩])
  (.cond (.t 33)
  (.skip)
  (.exit 2)))
  (.block 3
  (.ops [⟨some 34, none, .mov (.t 5)⟩,
  ⟨some 35, none, .bin .sub (.t 34) (.c (.int .i64 1))⟩,
  ⟨some 5, none, .mov (.t 35)⟩]))
def c1_pianolalaw24_sorted : C :=
 .any 2 [.op 5 ⟨some 41, none, .mov (.t 0)⟩,
  .op 6 ⟨some 42, none, .mov (.t 4)⟩,
  .op 7 ⟨some 43, none, .ia 2 (.t 41) (.t 42)⟩,
  .op 8 ⟨some 44, none, .ldn 2 (.t 43)⟩,
  .al 0 0 ⟨some 36, none, .bsl 0 [] []⟩,
  .op 1 ⟨some 37, none, .mov (.t 3)⟩,
  .op 2 ⟨some 38, none, .mov (.t 5)⟩,
  .op 3 ⟨some 39, none, .sl 2 (.t 37) none (some (.t 38)) none⟩,
  .op 4 ⟨some 40, none, .app 2 16 (.t 36) (.t 39)⟩,
  .re 8 ⟨some 44, none, .ldn 2 (.t 43)⟩,
  .al 9 1 ⟨some 45, none, .bsl 1 [(.int .i64 0), (.int .u8 0)] [(0, 2, (.t 44))]⟩,
  .op 10 ⟨some 46, none, .app 2 16 (.t 40) (.t 45)⟩,
  .op 11 ⟨some 47, none, .mov (.t 3)⟩,
  .op 12 ⟨some 48, none, .mov (.t 5)⟩,
  .op 13 ⟨some 49, none, .sl 2 (.t 47) (some (.t 48)) none none⟩,
  .op 14 ⟨some 50, none, .app 2 16 (.t 46) (.t 49)⟩,
  .op 15 ⟨some 3, none, .mov (.t 50)⟩]
def c2_pianolalaw24_sorted : C :=
 .seq (.seq (.ops [⟨some 6, none, .mov (.t 4)⟩,
  ⟨some 7, none, .mov (.t 0)⟩,
  ⟨some 8, none, .len 1 (.t 7)⟩,
  ⟨some 9, none, .bin .lss (.t 6) (.t 8)⟩,
  ⟨some 10, none, .mov (.t 9)⟩,
  ⟨some 11, some (10, true), .mov (.t 4)⟩,
  ⟨some 12, some (10, true), .bin .lss (.t 11) (.c (.int .i64 256))⟩,
  ⟨some 13, none, .pick (.t 10) (.t 12) (.c (.bool false))⟩])
  (.cond (.t 13)
  (.skip)
  (.exit 0)))
  (.seq (.block 1
  (.seq (.ops [⟨some 16, none, .mov (.t 3)⟩,
  ⟨some 17, none, .len 1 (.t 16)⟩,
  ⟨some 5, none, .mov (.t 17)⟩])
  (.seq (.block 2
  (.loop c0_pianolalaw24_sorted))
  (c1_pianolalaw24_sorted))))
  (.ops [⟨some 14, none, .mov (.t 4)⟩,
  ⟨some 15, none, .bin .add (.t 14) (.c (.int .i64 1))⟩,
  ⟨some 4, none, .mov (.t 15)⟩]))
def c_pianolalaw24_sorted : C :=
 .seq (.ops [⟨some 2, none, .mov (.c (.slice none 0 0))⟩])
  (.seq (.ops [⟨some 3, none, .mov (.c (.slice none 0 0))⟩])
  (.seq (.seq (.ops [⟨some 4, none, .mov (.c (.int .i64 0))⟩])
  (.block 0
  (.loop c2_pianolalaw24_sorted)))
  (.seq (.ops [⟨some 51, none, .mov (.t 3)⟩,
  ⟨some 2, none, .mov (.t 51)⟩])
  (.ret))))
def f_pianolalaw24_sorted : F := ⟨c_pianolalaw24_sorted, [.t 2], some []⟩
theorem h_pianolalaw24_sorted : compF Try.prog (compAny Try.prog) n_pianolalaw24_sorted = some (f_pianolalaw24_sorted.body, f_pianolalaw24_sorted.res) := by kernel_rfl
/- (*pianola/input.Plan).Next -/
def c0_input_Plan_Next : C :=
 .seq (.ops [⟨some 10, none, .mov (.t 0)⟩,
  ⟨some 11, none, .nilc (.t 10)⟩,
  ⟨some 12, none, .fa 0 (.t 11)⟩,
  ⟨some 13, none, .ld (.t 12)⟩,
  ⟨some 14, none, .ia 2 (.t 13) (.c (.int .i64 0))⟩,
  ⟨some 15, none, .fa 0 (.t 14)⟩,
  ⟨some 16, none, .ld (.t 15)⟩,
  ⟨some 2, none, .mov (.t 16)⟩,
  ⟨some 3, none, .mov (.c (.bool true))⟩])
  (.ret)
def c1_input_Plan_Next : C :=
 .seq (.seq (.ops [⟨some 4, none, .mov (.t 0)⟩,
  ⟨some 5, none, .nilc (.t 4)⟩,
  ⟨some 6, none, .fa 0 (.t 5)⟩,
  ⟨some 7, none, .ld (.t 6)⟩,
  ⟨some 8, none, .len 1 (.t 7)⟩,
  ⟨some 9, none, .bin .eql (.t 8) (.c (.int .i64 0))⟩])
  (.cond (.t 9)
  (.seq (.ops [⟨some 2, none, .mov (.c (.int .i64 0))⟩,
  ⟨some 3, none, .mov (.c (.bool false))⟩])
  (.ret))
  (.skip)))
  (c0_input_Plan_Next)
def c_input_Plan_Next : C :=
 .seq (.ops [⟨some 2, none, .mov (.c (.int .i64 0))⟩,
  ⟨some 3, none, .mov (.c (.bool false))⟩])
  (c1_input_Plan_Next)
def f_input_Plan_Next : F := ⟨c_input_Plan_Next, [.t 2, .t 3], some []⟩
theorem h_input_Plan_Next : compF Try.prog (compAny Try.prog) n_input_Plan_Next = some (f_input_Plan_Next.body, f_input_Plan_Next.res) := by kernel_rfl
/- (*pianola/input.Plan).Take -/
def c0_input_Plan_Take : C :=
 .ops [⟨some 33, none, .mov (.t 0)⟩,
  ⟨some 34, none, .mov (.t 0)⟩,
  ⟨some 35, none, .nilc (.t 34)⟩,
  ⟨some 36, none, .fa 0 (.t 35)⟩,
  ⟨some 37, none, .ld (.t 36)⟩,
  ⟨some 38, none, .sl 2 (.t 37) (some (.c (.int .i64 1))) none none⟩,
  ⟨some 39, none, .nilc (.t 33)⟩,
  ⟨some 40, none, .fa 0 (.t 39)⟩,
  ⟨none, none, .st (.t 40) (.t 38)⟩]
def c1_input_Plan_Take : C :=
 .block 1
  (.seq (.ops [⟨some 23, none, .mov (.t 5)⟩,
  ⟨some 24, none, .mov (.t 0)⟩,
  ⟨some 25, none, .nilc (.t 24)⟩,
  ⟨some 26, none, .fa 0 (.t 25)⟩,
  ⟨some 27, none, .ld (.t 26)⟩,
  ⟨some 28, none, .ia 2 (.t 27) (.c (.int .i64 0))⟩,
  ⟨some 29, none, .fa 1 (.t 28)⟩,
  ⟨some 30, none, .ld (.t 29)⟩,
  ⟨some 31, none, .bsl 1 [(.int .u8 0)] [(0, 1, (.t 30))]⟩,
  ⟨some 32, none, .app 1 1 (.t 23) (.t 31)⟩,
  ⟨some 5, none, .mov (.t 32)⟩])
  (c0_input_Plan_Take))
def c2_input_Plan_Take : C :=
 .seq (.seq (.ops [⟨some 6, none, .mov (.t 0)⟩,
  ⟨some 7, none, .nilc (.t 6)⟩,
  ⟨some 8, none, .fa 0 (.t 7)⟩,
  ⟨some 9, none, .ld (.t 8)⟩,
  ⟨some 10, none, .len 1 (.t 9)⟩,
  ⟨some 11, none, .bin .gtr (.t 10) (.c (.int .i64 0))⟩,
  ⟨some 12, none, .mov (.t 11)⟩,
  ⟨some 13, some (12, true), .mov (.t 0)⟩,
  ⟨some 14, some (12, true), .nilc (.t 13)⟩,
  ⟨some 15, some (12, true), .fa 0 (.t 14)⟩,
  ⟨some 16, some (12, true), .ld (.t 15)⟩,
  ⟨some 17, some (12, true), .ia 2 (.t 16) (.c (.int .i64 0))⟩,
  ⟨some 18, some (12, true), .fa 0 (.t 17)⟩,
  ⟨some 19, some (12, true), .ld (.t 18)⟩,
  ⟨some 20, some (12, true), .mov (.t 1)⟩,
  ⟨some 21, some (12, true), .bin .leq (.t 19) (.t 20)⟩,
  ⟨some 22, none, .pick (.t 12) (.t 21) (.c (.bool false))⟩])
  (.cond (.t 22)
  (.skip)
  (.exit 0)))
  (c1_input_Plan_Take)
def c_input_Plan_Take : C :=
 .seq (.ops [⟨some 4, none, .mov (.c (.slice none 0 0))⟩])
  (.seq (.ops [⟨some 5, none, .mov (.c (.slice none 0 0))⟩])
  (.seq (.block 0
  (.loop c2_input_Plan_Take))
  (.seq (.ops [⟨some 41, none, .mov (.t 5)⟩,
  ⟨some 4, none, .mov (.t 41)⟩])
  (.ret))))
def f_input_Plan_Take : F := ⟨c_input_Plan_Take, [.t 4], some []⟩
theorem h_input_Plan_Take : compF Try.prog (compAny Try.prog) n_input_Plan_Take = some (f_input_Plan_Take.body, f_input_Plan_Take.res) := by kernel_rfl
/- pianola/pianolabook.Intact[pianola/input.Key] -/
def c0_pianolabook_Intact_input_Key : C :=
 .seq (.block 1
  (.seq (.any 0 [.op 0 ⟨some 31, none, .mov (.t 0)⟩,
  .op 1 ⟨some 32, none, .mov (.t 7)⟩,
  .op 2 ⟨some 33, none, .ia 2 (.t 31) (.t 32)⟩,
  .op 3 ⟨some 34, none, .ldn 2 (.t 33)⟩,
  .op 4 ⟨some 35, none, .ldn 2 (.t 5)⟩,
  .op 5 ⟨some 36, none, .eqt true (.agg [(0, 1, false, (.int .i64)), (1, 1, false, (.int .u8))]) (.t 34) (.t 35)⟩])
  (.cond (.t 36)
  (.seq (.ops [⟨some 6, none, .mov (.c (.bool false))⟩])
  (.ret))
  (.skip))))
  (.ops [⟨some 29, none, .mov (.t 7)⟩,
  ⟨some 30, none, .bin .add (.t 29) (.c (.int .i64 1))⟩,
  ⟨some 7, none, .mov (.t 30)⟩])
def c1_pianolabook_Intact_input_Key : C :=
 .seq (.seq (.ops [⟨some 25, none, .mov (.t 7)⟩,
  ⟨some 26, none, .mov (.t 0)⟩,
  ⟨some 27, none, .len 1 (.t 26)⟩,
  ⟨some 28, none, .bin .lss (.t 25) (.t 27)⟩])
  (.cond (.t 28)
  (.skip)
  (.exit 0)))
  (c0_pianolabook_Intact_input_Key)
def c2_pianolabook_Intact_input_Key : C :=
 .seq (.seq (.ops [⟨some 8, none, .mov (.t 0)⟩,
  ⟨some 9, none, .len 1 (.t 8)⟩,
  ⟨some 10, none, .mov (.t 1)⟩,
  ⟨some 11, none, .len 1 (.t 10)⟩,
  ⟨some 12, none, .bin .add (.t 11) (.c (.int .i64 80))⟩,
  ⟨some 13, none, .bin .neq (.t 9) (.t 12)⟩,
  ⟨some 14, none, .mov (.t 13)⟩,
  ⟨some 15, some (14, false), .mov (.t 0)⟩,
  ⟨some 16, some (14, false), .mov (.t 1)⟩,
  ⟨some 17, some (14, false), .len 1 (.t 16)⟩,
  ⟨some 18, some (14, false), .sl 2 (.t 15) none (some (.t 17)) none⟩,
  ⟨some 19, some (14, false), .mov (.t 1)⟩,
  ⟨some 20, some (14, false), .call n_pianolabook_Same_input_Key [(.t 18), (.t 19)]⟩,
  ⟨some 21, some (14, false), .un .not (.t 20)⟩,
  ⟨some 22, none, .pick (.t 14) (.c (.bool true)) (.t 21)⟩])
  (.cond (.t 22)
  (.seq (.ops [⟨some 6, none, .mov (.c (.bool false))⟩])
  (.ret))
  (.skip)))
  (.seq (.seq (.ops [⟨some 23, none, .mov (.t 1)⟩,
  ⟨some 24, none, .len 1 (.t 23)⟩,
  ⟨some 7, none, .mov (.t 24)⟩])
  (.block 0
  (.loop c1_pianolabook_Intact_input_Key)))
  (.seq (.ops [⟨some 6, none, .mov (.c (.bool true))⟩])
  (.ret)))
def c_pianolabook_Intact_input_Key : C :=
 .seq (.ops [⟨some 5, none, .box (.t 2)⟩,
  ⟨some 6, none, .mov (.c (.bool false))⟩])
  (c2_pianolabook_Intact_input_Key)
def f_pianolabook_Intact_input_Key : F := ⟨c_pianolabook_Intact_input_Key, [.t 6], some []⟩
theorem h_pianolabook_Intact_input_Key : compF Try.prog (compAny Try.prog) n_pianolabook_Intact_input_Key = some (f_pianolabook_Intact_input_Key.body, f_pianolabook_Intact_input_Key.res) := by kernel_rfl
/- pianola/wheel.New -/
def c_wheel_New : C :=
 .seq (.ops [⟨some 0, none, .mov (.c (.pointer none))⟩])
  (.seq (.ops [⟨some 1, none, .build [(.slice none 0 0), (.int .i64 0)] []⟩,
  ⟨some 2, none, .box (.t 1)⟩,
  ⟨some 0, none, .mov (.t 2)⟩])
  (.ret))
def f_wheel_New : F := ⟨c_wheel_New, [.t 0], some []⟩
theorem h_wheel_New : compF Try.prog (compAny Try.prog) n_wheel_New = some (f_wheel_New.body, f_wheel_New.res) := by kernel_rfl
/- (*pianola/wheel.Wheel).Arm -/
def c0_wheel_Wheel_Arm : C :=
 .seq (.ops [⟨some 36, none, .mov (.t 0)⟩,
  ⟨some 37, none, .nilc (.t 36)⟩,
  ⟨some 38, none, .fa 1 (.t 37)⟩,
  ⟨some 39, none, .ld (.t 38)⟩,
  ⟨some 40, none, .bin .add (.t 39) (.c (.int .i64 1))⟩,
  ⟨some 41, none, .nilc (.t 36)⟩,
  ⟨some 42, none, .fa 1 (.t 41)⟩,
  ⟨none, none, .st (.t 42) (.t 40)⟩])
  (.seq (.ops [⟨some 43, none, .mov (.t 0)⟩,
  ⟨some 44, none, .nilc (.t 43)⟩,
  ⟨some 45, none, .fa 0 (.t 44)⟩,
  ⟨some 46, none, .ld (.t 45)⟩,
  ⟨some 47, none, .call n_slices_SortStableFunc_api_Event_api_Event [(.t 46), (.f n_wheel_Wheel_Arm_1)]⟩])
  (.seq (.ops [⟨some 6, none, .mov (.c (.bool true))⟩])
  (.ret)))
def c1_wheel_Wheel_Arm : C :=
 .seq (.any 1 [.op 1 ⟨some 21, none, .mov (.t 0)⟩,
  .op 2 ⟨some 22, none, .nilc (.t 21)⟩,
  .op 3 ⟨some 23, none, .fa 0 (.t 22)⟩,
  .op 4 ⟨some 24, none, .ld (.t 23)⟩,
  .op 7 ⟨some 27, none, .mov (.t 0)⟩,
  .op 8 ⟨some 28, none, .nilc (.t 27)⟩,
  .op 9 ⟨some 29, none, .fa 1 (.t 28)⟩,
  .op 10 ⟨some 30, none, .ld (.t 29)⟩,
  .op 5 ⟨some 25, none, .mov (.t 2)⟩,
  .op 6 ⟨some 26, none, .mov (.t 1)⟩,
  .op 11 ⟨some 31, none, .build [(.int .i64 0), (.int .i64 0), (.int .i64 0)] [(0, 1, (.t 25)), (1, 1, (.t 26)), (2, 1, (.t 30))]⟩,
  .al 12 0 ⟨some 32, none, .bsl 1 [(.int .i64 0), (.int .i64 0), (.int .i64 0)] [(0, 3, (.t 31))]⟩,
  .op 13 ⟨some 33, none, .app 3 24 (.t 24) (.t 32)⟩,
  .op 0 ⟨some 20, none, .mov (.t 0)⟩,
  .op 14 ⟨some 34, none, .nilc (.t 20)⟩,
  .op 15 ⟨some 35, none, .fa 0 (.t 34)⟩,
  .op 16 ⟨none, none, .st (.t 35) (.t 33)⟩])
  (c0_wheel_Wheel_Arm)
def c2_wheel_Wheel_Arm : C :=
 .seq (.seq (.ops [⟨some 7, none, .mov (.t 1)⟩,
  ⟨some 8, none, .bin .lss (.t 7) (.c (.int .i64 0))⟩,
  ⟨some 9, none, .mov (.t 8)⟩,
  ⟨some 10, some (9, false), .mov (.t 1)⟩,
  ⟨some 11, some (9, false), .bin .geq (.t 10) (.c (.int .i64 16))⟩,
  ⟨some 12, none, .pick (.t 9) (.c (.bool true)) (.t 11)⟩,
  ⟨some 13, none, .mov (.t 12)⟩,
  ⟨some 14, some (13, false), .mov (.t 2)⟩,
  ⟨some 15, some (13, false), .bin .lss (.t 14) (.c (.int .i64 0))⟩,
  ⟨some 16, none, .pick (.t 13) (.c (.bool true)) (.t 15)⟩])
  (.cond (.t 16)
  (.seq (.ops [⟨some 6, none, .mov (.c (.bool false))⟩])
  (.ret))
  (.skip)))
  (.seq (.ops [⟨some 17, none, .mov (.t 0)⟩,
  ⟨some 18, none, .mov (.t 1)⟩,
  ⟨some 19, none, .call n_wheel_Wheel_Cancel [(.t 17), (.t 18)]⟩])
  (c1_wheel_Wheel_Arm))
def c_wheel_Wheel_Arm : C :=
 .seq (.ops [⟨some 6, none, .mov (.c (.bool false))⟩])
  (c2_wheel_Wheel_Arm)
def f_wheel_Wheel_Arm : F := ⟨c_wheel_Wheel_Arm, [.t 6], some []⟩
theorem h_wheel_Wheel_Arm : compF Try.prog (compAny Try.prog) n_wheel_Wheel_Arm = some (f_wheel_Wheel_Arm.body, f_wheel_Wheel_Arm.res) := by kernel_rfl
/- (*pianola/wheel.Wheel).Take -/
def c0_wheel_Wheel_Take : C :=
 .seq (.ops [⟨some 14, none, .mov (.t 7)⟩,
  ⟨some 15, none, .un .not (.t 14)⟩,
  ⟨some 16, none, .mov (.t 15)⟩,
  ⟨some 17, some (16, false), .mov (.t 6)⟩,
  ⟨some 18, some (16, false), .mov (.t 1)⟩,
  ⟨some 19, some (16, false), .bin .gtr (.t 17) (.t 18)⟩,
  ⟨some 20, none, .pick (.t 16) (.c (.bool true)) (.t 19)⟩])
  (.cond (.t 20)
  (.seq (.ops [⟨some 21, none, .build [(.int .i64 0), (.int .i64 0), (.int .i64 0)] []⟩,
  ⟨none, none, .stn 3 (.t 4) (.t 21)⟩,
  ⟨some 5, none, .mov (.c (.bool false))⟩])
  (.ret))
  (.skip))
def c1_wheel_Wheel_Take : C :=
 .seq (.ops [⟨some 28, none, .mov (.t 0)⟩,
  ⟨some 29, none, .mov (.t 0)⟩,
  ⟨some 30, none, .nilc (.t 29)⟩,
  ⟨some 31, none, .fa 0 (.t 30)⟩,
  ⟨some 32, none, .ld (.t 31)⟩,
  ⟨some 33, none, .call n_slices_Delete_api_Event_api_Event [(.t 32), (.c (.int .i64 0)), (.c (.int .i64 1))]⟩,
  ⟨some 34, none, .nilc (.t 28)⟩,
  ⟨some 35, none, .fa 0 (.t 34)⟩,
  ⟨none, none, .st (.t 35) (.t 33)⟩])
  (.seq (.ops [⟨some 36, none, .ldn 3 (.t 8)⟩,
  ⟨none, none, .stn 3 (.t 4) (.t 36)⟩,
  ⟨some 5, none, .mov (.c (.bool true))⟩])
  (.ret))
def c2_wheel_Wheel_Take : C :=
 .seq (.ops [⟨some 22, none, .mov (.t 0)⟩,
  ⟨some 23, none, .nilc (.t 22)⟩,
  ⟨some 24, none, .fa 0 (.t 23)⟩,
  ⟨some 25, none, .ld (.t 24)⟩,
  ⟨some 26, none, .ia 3 (.t 25) (.c (.int .i64 0))⟩,
  ⟨some 27, none, .ldn 3 (.t 26)⟩,
  ⟨some 8, none, .new [(.int .i64 0), (.int .i64 0), (.int .i64 0)]⟩,
  ⟨none, none, .stn 3 (.t 8) (.t 27)⟩])
  (c1_wheel_Wheel_Take)
def c_wheel_Wheel_Take : C :=
 .seq (.ops [⟨some 4, none, .new [(.int .i64 0), (.int .i64 0), (.int .i64 0)]⟩,
  ⟨some 5, none, .mov (.c (.bool false))⟩])
  (.seq (.seq (.ops [⟨some 10, none, .mov (.t 0)⟩,
  ⟨some 11, none, .call n_wheel_Wheel_Next [(.t 10)]⟩,
  ⟨some 9, none, .mov (.t 11)⟩,
  ⟨some 12, none, .ext (.t 9) 0⟩,
  ⟨some 13, none, .ext (.t 9) 1⟩,
  ⟨some 6, none, .mov (.t 12)⟩,
  ⟨some 7, none, .mov (.t 13)⟩])
  (c0_wheel_Wheel_Take))
  (c2_wheel_Wheel_Take))
def f_wheel_Wheel_Take : F := ⟨c_wheel_Wheel_Take, [.ldn 3 4, .t 5], some []⟩
theorem h_wheel_Wheel_Take : compF Try.prog (compAny Try.prog) n_wheel_Wheel_Take = some (f_wheel_Wheel_Take.body, f_wheel_Wheel_Take.res) := by kernel_rfl
/- (*pianola/wheel.Wheel).All -/
def c_wheel_Wheel_All : C :=
 .seq (.ops [⟨some 2, none, .mov (.c (.slice none 0 0))⟩])
  (.seq (.ops [⟨some 3, none, .mov (.t 0)⟩,
  ⟨some 4, none, .nilc (.t 3)⟩,
  ⟨some 5, none, .fa 0 (.t 4)⟩,
  ⟨some 6, none, .ld (.t 5)⟩,
  ⟨some 7, none, .call n_slices_Clone_api_Event_api_Event [(.t 6)]⟩,
  ⟨some 2, none, .mov (.t 7)⟩])
  (.ret))
def f_wheel_Wheel_All : F := ⟨c_wheel_Wheel_All, [.t 2], some []⟩
theorem h_wheel_Wheel_All : compF Try.prog (compAny Try.prog) n_wheel_Wheel_All = some (f_wheel_Wheel_All.body, f_wheel_Wheel_All.res) := by kernel_rfl
/- pianola/pianolalaw9.known -/
def c0_pianolalaw9_known : C :=
 .seq (.ops [⟨some 33, none, .mov (.t 3)⟩,
  ⟨some 34, none, .un .not (.t 33)⟩,
  ⟨some 35, none, .mov (.t 34)⟩,
  ⟨some 36, some (35, true), .mov (.t 5)⟩,
  ⟨some 37, none, .pick (.t 35) (.t 36) (.c (.bool false))⟩,
  ⟨some 38, none, .mov (.t 37)⟩,
  ⟨some 39, some (38, true), .fa 1 (.t 4)⟩,
  ⟨some 40, some (38, true), .ld (.t 39)⟩,
  ⟨some 41, some (38, true), .bin .eql (.t 40) (.c (.int .i64 1))⟩,
  ⟨some 42, none, .pick (.t 38) (.t 41) (.c (.bool false))⟩,
  ⟨some 43, none, .mov (.t 42)⟩,
  ⟨some 44, some (43, true), .fa 0 (.t 4)⟩,
  ⟨some 45, some (43, true), .ld (.t 44)⟩,
  ⟨some 46, some (43, true), .bin .eql (.t 45) (.c (.int .i64 5))⟩,
  ⟨some 47, none, .pick (.t 43) (.t 46) (.c (.bool false))⟩,
  ⟨some 48, none, .mov (.t 47)⟩,
  ⟨some 49, some (48, true), .mov (.t 1)⟩,
  ⟨some 50, some (48, true), .call n_wheel_Wheel_All [(.t 49)]⟩,
  ⟨some 51, some (48, true), .len 1 (.t 50)⟩,
  ⟨some 52, some (48, true), .bin .eql (.t 51) (.c (.int .i64 1))⟩,
  ⟨some 53, none, .pick (.t 48) (.t 52) (.c (.bool false))⟩,
  ⟨some 0, none, .mov (.t 53)⟩])
  (.ret)
def c1_pianolalaw9_known : C :=
 .seq (.ops [⟨some 29, none, .mov (.t 1)⟩,
  ⟨some 30, none, .call n_wheel_Wheel_Take [(.t 29), (.c (.int .i64 5))]⟩,
  ⟨some 28, none, .mov (.t 30)⟩,
  ⟨some 31, none, .ext (.t 28) 0⟩,
  ⟨some 32, none, .ext (.t 28) 1⟩,
  ⟨some 4, none, .new [(.int .i64 0), (.int .i64 0), (.int .i64 0)]⟩,
  ⟨none, none, .stn 3 (.t 4) (.t 31)⟩,
  ⟨some 5, none, .mov (.t 32)⟩])
  (c0_pianolalaw9_known)
def c2_pianolalaw9_known : C :=
 .seq (.ops [⟨some 24, none, .mov (.t 1)⟩,
  ⟨some 25, none, .call n_wheel_Wheel_Take [(.t 24), (.c (.int .i64 4))]⟩,
  ⟨some 23, none, .mov (.t 25)⟩,
  ⟨some 26, none, .ext (.t 23) 0⟩,
  ⟨some 27, none, .ext (.t 23) 1⟩,
  ⟨some 2, none, .new [(.int .i64 0), (.int .i64 0), (.int .i64 0)]⟩,
  ⟨none, none, .stn 3 (.t 2) (.t 26)⟩,
  ⟨some 3, none, .mov (.t 27)⟩])
  (c1_pianolalaw9_known)
def c3_pianolalaw9_known : C :=
 .seq (.seq (.ops [⟨some 7, none, .mov (.t 1)⟩,
  ⟨some 8, none, .eqn 0 false (.t 7)⟩,
  ⟨some 9, none, .mov (.t 8)⟩,
  ⟨some 10, some (9, false), .mov (.t 1)⟩,
  ⟨some 11, some (9, false), .call n_wheel_Wheel_Arm [(.t 10), (.c (.int .i64 1)), (.c (.int .i64 5))]⟩,
  ⟨some 12, some (9, false), .un .not (.t 11)⟩,
  ⟨some 13, none, .pick (.t 9) (.c (.bool true)) (.t 12)⟩,
  ⟨some 14, none, .mov (.t 13)⟩,
  ⟨some 15, some (14, false), .mov (.t 1)⟩,
  ⟨some 16, some (14, false), .call n_wheel_Wheel_Arm [(.t 15), (.c (.int .i64 2)), (.c (.int .i64 5))]⟩,
  ⟨some 17, some (14, false), .un .not (.t 16)⟩,
  ⟨some 18, none, .pick (.t 14) (.c (.bool true)) (.t 17)⟩,
  ⟨some 19, none, .mov (.t 18)⟩,
  ⟨some 20, some (19, false), .mov (.t 1)⟩,
  ⟨some 21, some (19, false), .call n_wheel_Wheel_Arm [(.t 20), (.c (.int .i64 99)), (.c (.int .i64 5))]⟩,
  ⟨some 22, none, .pick (.t 19) (.c (.bool true)) (.t 21)⟩])
  (.cond (.t 22)
  (.seq (.ops [⟨some 0, none, .mov (.c (.bool false))⟩])
  (.ret))
  (.skip)))
  (c2_pianolalaw9_known)
def c_pianolalaw9_known : C :=
 .seq (.ops [⟨some 0, none, .mov (.c (.bool false))⟩])
  (.seq (.ops [⟨some 6, none, .call n_wheel_New []⟩,
  ⟨some 1, none, .mov (.t 6)⟩])
  (c3_pianolalaw9_known))
def f_pianolalaw9_known : F := ⟨c_pianolalaw9_known, [.t 0], some []⟩
theorem h_pianolalaw9_known : compF Try.prog (compAny Try.prog) n_pianolalaw9_known = some (f_pianolalaw9_known.body, f_pianolalaw9_known.res) := by kernel_rfl
/- (*pianola/wheel.Wheel).Cancel -/
def c0_wheel_Wheel_Cancel : C :=
 .seq (.ops [⟨some 11, none, .mov (.t 0)⟩,
  ⟨some 12, none, .mov (.t 0)⟩,
  ⟨some 13, none, .nilc (.t 12)⟩,
  ⟨some 14, none, .fa 0 (.t 13)⟩,
  ⟨some 15, none, .ld (.t 14)⟩,
  ⟨some 16, none, .mov (.t 5)⟩,
  ⟨some 17, none, .mov (.t 5)⟩,
  ⟨some 18, none, .bin .add (.t 17) (.c (.int .i64 1))⟩,
  ⟨some 19, none, .call n_slices_Delete_api_Event_api_Event [(.t 15), (.t 16), (.t 18)]⟩,
  ⟨some 20, none, .nilc (.t 11)⟩,
  ⟨some 21, none, .fa 0 (.t 20)⟩,
  ⟨none, none, .st (.t 21) (.t 19)⟩])
  (.seq (.ops [⟨some 4, none, .mov (.c (.bool true))⟩])
  (.ret))
def c1_wheel_Wheel_Cancel : C :=
 .seq (.ops [⟨some 6, none, .mov (.t 0)⟩,
  ⟨some 7, none, .mov (.t 1)⟩,
  ⟨some 8, none, .call n_wheel_Wheel_find [(.t 6), (.t 7)]⟩,
  ⟨some 5, none, .mov (.t 8)⟩])
  (.seq (.seq (.ops [⟨some 9, none, .mov (.t 5)⟩,
  ⟨some 10, none, .bin .lss (.t 9) (.c (.int .i64 0))⟩])
  (.cond (.t 10)
  (.seq (.ops [⟨some 4, none, .mov (.c (.bool false))⟩])
  (.ret))
  (.skip)))
  (c0_wheel_Wheel_Cancel))
def c_wheel_Wheel_Cancel : C :=
 .seq (.ops [⟨some 4, none, .mov (.c (.bool false))⟩])
  (c1_wheel_Wheel_Cancel)
def f_wheel_Wheel_Cancel : F := ⟨c_wheel_Wheel_Cancel, [.t 4], some []⟩
theorem h_wheel_Wheel_Cancel : compF Try.prog (compAny Try.prog) n_wheel_Wheel_Cancel = some (f_wheel_Wheel_Cancel.body, f_wheel_Wheel_Cancel.res) := by kernel_rfl
/- pianola/pianolalaw9.play -/
def c0_pianolalaw9_play : C :=
 .any 0 [.op 0 ⟨some 40, none, .fa 1 (.t 8)⟩,
  .op 1 ⟨some 41, none, .ld (.t 40)⟩,
  .op 3 ⟨some 43, none, .fa 2 (.t 8)⟩,
  .op 4 ⟨some 44, none, .ld (.t 43)⟩,
  .op 2 ⟨some 42, none, .call n_pianolabook_Within [(.t 41), (.c (.int .i64 (-1))), (.c (.int .i64 6))]⟩,
  .re 4 ⟨some 44, none, .ld (.t 43)⟩,
  .op 6 ⟨some 46, none, .fa 1 (.t 8)⟩,
  .op 7 ⟨none, none, .st (.t 46) (.t 42)⟩,
  .op 5 ⟨some 45, none, .bin .rem (.t 44) (.c (.int .i64 40))⟩,
  .op 8 ⟨some 47, none, .fa 2 (.t 8)⟩,
  .op 9 ⟨none, none, .st (.t 47) (.t 45)⟩]
def c1_pianolalaw9_play : C :=
 .seq (.any 0 [.op 1 ⟨some 66, none, .fa 1 (.t 8)⟩,
  .op 2 ⟨some 67, none, .ld (.t 66)⟩,
  .op 5 ⟨some 70, none, .fa 1 (.t 8)⟩,
  .op 6 ⟨some 71, none, .ld (.t 70)⟩,
  .op 0 ⟨some 65, none, .mov (.t 5)⟩,
  .op 3 ⟨some 68, none, .call n_wheel_Wheel_Cancel [(.t 65), (.t 67)]⟩,
  .re 6 ⟨some 71, none, .ld (.t 70)⟩,
  .op 4 ⟨some 69, none, .mov (.t 6)⟩,
  .op 7 ⟨some 72, none, .call n_pianolaref9_Wheel_Cancel [(.t 69), (.t 71)]⟩,
  .op 8 ⟨some 73, none, .eqb true (.t 68) (.t 72)⟩])
  (.cond (.t 73)
  (.seq (.ops [⟨some 4, none, .mov (.c (.bool false))⟩])
  (.ret))
  (.skip))
def c2_pianolalaw9_play : C :=
 .seq (.ops [⟨some 91, none, .ldn 3 (.t 9)⟩,
  ⟨some 92, none, .ldn 3 (.t 11)⟩,
  ⟨some 93, none, .eqt true (.agg [(0, 1, false, (.int .i64)), (1, 1, false, (.int .i64)), (2, 1, false, (.int .i64))]) (.t 91) (.t 92)⟩,
  ⟨some 94, none, .mov (.t 93)⟩,
  ⟨some 95, some (94, false), .mov (.t 10)⟩,
  ⟨some 96, some (94, false), .mov (.t 12)⟩,
  ⟨some 97, some (94, false), .eqb true (.t 95) (.t 96)⟩,
  ⟨some 98, none, .pick (.t 94) (.c (.bool true)) (.t 97)⟩])
  (.cond (.t 98)
  (.seq (.ops [⟨some 4, none, .mov (.c (.bool false))⟩])
  (.ret))
  (.skip))
def c3_pianolalaw9_play : C :=
 .seq (.ops [⟨some 85, none, .mov (.t 6)⟩,
  ⟨some 86, none, .fa 2 (.t 8)⟩,
  ⟨some 87, none, .ld (.t 86)⟩,
  ⟨some 88, none, .call n_pianolaref9_Wheel_Take [(.t 85), (.t 87)]⟩,
  ⟨some 84, none, .mov (.t 88)⟩,
  ⟨some 89, none, .ext (.t 84) 0⟩,
  ⟨some 90, none, .ext (.t 84) 1⟩,
  ⟨some 11, none, .new [(.int .i64 0), (.int .i64 0), (.int .i64 0)]⟩,
  ⟨none, none, .stn 3 (.t 11) (.t 89)⟩,
  ⟨some 12, none, .mov (.t 90)⟩])
  (c2_pianolalaw9_play)
def c4_pianolalaw9_play : C :=
 .seq (.ops [⟨some 78, none, .mov (.t 5)⟩,
  ⟨some 79, none, .fa 2 (.t 8)⟩,
  ⟨some 80, none, .ld (.t 79)⟩,
  ⟨some 81, none, .call n_wheel_Wheel_Take [(.t 78), (.t 80)]⟩,
  ⟨some 77, none, .mov (.t 81)⟩,
  ⟨some 82, none, .ext (.t 77) 0⟩,
  ⟨some 83, none, .ext (.t 77) 1⟩,
  ⟨some 9, none, .new [(.int .i64 0), (.int .i64 0), (.int .i64 0)]⟩,
  ⟨none, none, .stn 3 (.t 9) (.t 82)⟩,
  ⟨some 10, none, .mov (.t 83)⟩])
  (c3_pianolalaw9_play)
def c5_pianolalaw9_play : C :=
 .seq (.any 0 [.op 1 ⟨some 51, none, .fa 1 (.t 8)⟩,
  .op 2 ⟨some 52, none, .ld (.t 51)⟩,
  .op 3 ⟨some 53, none, .fa 2 (.t 8)⟩,
  .op 4 ⟨some 54, none, .ld (.t 53)⟩,
  .op 7 ⟨some 57, none, .fa 1 (.t 8)⟩,
  .op 8 ⟨some 58, none, .ld (.t 57)⟩,
  .op 9 ⟨some 59, none, .fa 2 (.t 8)⟩,
  .op 10 ⟨some 60, none, .ld (.t 59)⟩,
  .op 0 ⟨some 50, none, .mov (.t 5)⟩,
  .op 5 ⟨some 55, none, .call n_wheel_Wheel_Arm [(.t 50), (.t 52), (.t 54)]⟩,
  .re 8 ⟨some 58, none, .ld (.t 57)⟩,
  .re 10 ⟨some 60, none, .ld (.t 59)⟩,
  .op 6 ⟨some 56, none, .mov (.t 6)⟩,
  .op 11 ⟨some 61, none, .call n_pianolaref9_Wheel_Arm [(.t 56), (.t 58), (.t 60)]⟩,
  .op 12 ⟨some 62, none, .eqb true (.t 55) (.t 61)⟩])
  (.cond (.t 62)
  (.seq (.ops [⟨some 4, none, .mov (.c (.bool false))⟩])
  (.ret))
  (.skip))
def c6_pianolalaw9_play : C :=
 .block 2
  (.seq (.ops [⟨some 64, none, .bin .eql (.t 49) (.c (.int .i64 3))⟩,
  ⟨some 63, none, .mov (.t 64)⟩])
  (.cond (.t 63)
  (c1_pianolalaw9_play)
  (.seq (.seq (.ops [⟨some 75, none, .bin .eql (.t 49) (.c (.int .i64 4))⟩,
  ⟨some 74, none, .mov (.t 75)⟩])
  (.cond (.t 74)
  (.skip)
  (.ops [⟨some 76, none, .bin .eql (.t 49) (.c (.int .i64 5))⟩,
  ⟨some 74, none, .mov (.t 76)⟩])))
  (.cond (.t 74)
  (c4_pianolalaw9_play)
  (c5_pianolalaw9_play)))))
def c7_pianolalaw9_play : C :=
 .cond (.t 123)
  (.ops [⟨some 124, none, .mov (.t 6)⟩,
  ⟨some 125, none, .nilc (.t 124)⟩,
  ⟨some 126, none, .fa 0 (.t 125)⟩,
  ⟨some 127, none, .ld (.t 126)⟩,
  ⟨some 128, none, .ia 3 (.t 127) (.c (.int .i64 0))⟩,
  ⟨some 129, none, .fa 0 (.t 128)⟩,
  ⟨some 130, none, .ld (.t 129)⟩,
  ⟨some 19, none, .mov (.t 130)⟩])
  (.skip)
def c8_pianolalaw9_play : C :=
 .seq (.any 0 [.op 0 ⟨some 131, none, .mov (.t 13)⟩,
  .op 1 ⟨some 132, none, .mov (.t 15)⟩,
  .op 2 ⟨some 133, none, .bin .neq (.t 131) (.t 132)⟩,
  .op 3 ⟨some 134, none, .mov (.t 133)⟩,
  .op 4 ⟨some 135, some (134, false), .mov (.t 14)⟩,
  .op 5 ⟨some 136, some (134, false), .mov (.t 16)⟩,
  .op 6 ⟨some 137, some (134, false), .eqb true (.t 135) (.t 136)⟩,
  .op 7 ⟨some 138, none, .pick (.t 134) (.c (.bool true)) (.t 137)⟩,
  .op 8 ⟨some 139, none, .mov (.t 138)⟩,
  .op 9 ⟨some 140, some (139, false), .mov (.t 17)⟩,
  .op 10 ⟨some 141, some (139, false), .mov (.t 19)⟩,
  .op 11 ⟨some 142, some (139, false), .bin .neq (.t 140) (.t 141)⟩,
  .op 12 ⟨some 143, none, .pick (.t 139) (.c (.bool true)) (.t 142)⟩,
  .op 13 ⟨some 144, none, .mov (.t 143)⟩,
  .op 14 ⟨some 145, some (144, false), .mov (.t 18)⟩,
  .op 15 ⟨some 146, some (144, false), .mov (.t 6)⟩,
  .op 16 ⟨some 147, some (144, false), .nilc (.t 146)⟩,
  .op 17 ⟨some 148, some (144, false), .fa 0 (.t 147)⟩,
  .op 18 ⟨some 149, some (144, false), .ld (.t 148)⟩,
  .op 19 ⟨some 150, some (144, false), .len 1 (.t 149)⟩,
  .op 20 ⟨some 151, some (144, false), .bin .gtr (.t 150) (.c (.int .i64 0))⟩,
  .op 21 ⟨some 152, some (144, false), .eqb true (.t 145) (.t 151)⟩,
  .op 22 ⟨some 153, none, .pick (.t 144) (.c (.bool true)) (.t 152)⟩,
  .op 23 ⟨some 154, none, .mov (.t 153)⟩,
  .op 26 ⟨some 157, some (154, false), .mov (.t 6)⟩,
  .op 27 ⟨some 158, some (154, false), .nilc (.t 157)⟩,
  .op 28 ⟨some 159, some (154, false), .fa 0 (.t 158)⟩,
  .op 29 ⟨some 160, some (154, false), .ld (.t 159)⟩,
  .op 24 ⟨some 155, some (154, false), .mov (.t 5)⟩,
  .op 25 ⟨some 156, some (154, false), .call n_wheel_Wheel_All [(.t 155)]⟩,
  .re 29 ⟨some 160, some (154, false), .ld (.t 159)⟩,
  .op 30 ⟨some 161, some (154, false), .call n_pianolabook_Same_api_Event [(.t 156), (.t 160)]⟩,
  .op 31 ⟨some 162, some (154, false), .un .not (.t 161)⟩,
  .op 32 ⟨some 163, none, .pick (.t 154) (.c (.bool true)) (.t 162)⟩])
  (.cond (.t 163)
  (.seq (.ops [⟨some 4, none, .mov (.c (.bool false))⟩])
  (.ret))
  (.skip))
def c9_pianolalaw9_play : C :=
 .seq (.ops [⟨some 19, none, .mov (.c (.int .i64 0))⟩])
  (.seq (.seq (.ops [⟨some 118, none, .mov (.t 6)⟩,
  ⟨some 119, none, .nilc (.t 118)⟩,
  ⟨some 120, none, .fa 0 (.t 119)⟩,
  ⟨some 121, none, .ld (.t 120)⟩,
  ⟨some 122, none, .len 1 (.t 121)⟩,
  ⟨some 123, none, .bin .gtr (.t 122) (.c (.int .i64 0))⟩])
  (c7_pianolalaw9_play))
  (c8_pianolalaw9_play))
def c10_pianolalaw9_play : C :=
 .seq (.ops [⟨some 107, none, .mov (.t 6)⟩,
  ⟨some 108, none, .fa 1 (.t 8)⟩,
  ⟨some 109, none, .ld (.t 108)⟩,
  ⟨some 110, none, .call n_pianolaref9_Wheel_At [(.t 107), (.t 109)]⟩,
  ⟨some 106, none, .mov (.t 110)⟩,
  ⟨some 111, none, .ext (.t 106) 0⟩,
  ⟨some 112, none, .ext (.t 106) 1⟩,
  ⟨some 15, none, .mov (.t 111)⟩,
  ⟨some 16, none, .mov (.t 112)⟩])
  (.seq (.ops [⟨some 114, none, .mov (.t 5)⟩,
  ⟨some 115, none, .call n_wheel_Wheel_Next [(.t 114)]⟩,
  ⟨some 113, none, .mov (.t 115)⟩,
  ⟨some 116, none, .ext (.t 113) 0⟩,
  ⟨some 117, none, .ext (.t 113) 1⟩,
  ⟨some 17, none, .mov (.t 116)⟩,
  ⟨some 18, none, .mov (.t 117)⟩])
  (c9_pianolalaw9_play))
def c11_pianolalaw9_play : C :=
 .seq (.ops [⟨some 100, none, .mov (.t 5)⟩,
  ⟨some 101, none, .fa 1 (.t 8)⟩,
  ⟨some 102, none, .ld (.t 101)⟩,
  ⟨some 103, none, .call n_wheel_Wheel_At [(.t 100), (.t 102)]⟩,
  ⟨some 99, none, .mov (.t 103)⟩,
  ⟨some 104, none, .ext (.t 99) 0⟩,
  ⟨some 105, none, .ext (.t 99) 1⟩,
  ⟨some 13, none, .mov (.t 104)⟩,
  ⟨some 14, none, .mov (.t 105)⟩])
  (c10_pianolalaw9_play)
def c12_pianolalaw9_play : C :=
 .seq (.ops [⟨some 35, none, .mov (.t 0)⟩,
  ⟨some 36, none, .mov (.t 7)⟩,
  ⟨some 37, none, .ia 3 (.t 35) (.t 36)⟩,
  ⟨some 38, none, .ldn 3 (.t 37)⟩,
  ⟨some 8, none, .new [(.int .i64 0), (.int .i64 0), (.int .i64 0)]⟩,
  ⟨none, none, .stn 3 (.t 8) (.t 38)⟩])
  (.seq (.seq (.ops [⟨some 39, none, .mov (.t 1)⟩])
  (.cond (.t 39)
  (c0_pianolalaw9_play)
  (.skip)))
  (.seq (.seq (.ops [⟨some 48, none, .fa 0 (.t 8)⟩,
  ⟨some 49, none, .ld (.t 48)⟩])
  (c6_pianolalaw9_play))
  (c11_pianolalaw9_play)))
def c13_pianolalaw9_play : C :=
 .seq (.block 1
  (.seq (.seq (.ops [⟨some 33, none, .mov (.t 5)⟩,
  ⟨some 34, none, .eqn 0 false (.t 33)⟩])
  (.cond (.t 34)
  (.seq (.ops [⟨some 4, none, .mov (.c (.bool false))⟩])
  (.ret))
  (.skip)))
  (c12_pianolalaw9_play)))
  (.ops [⟨some 31, none, .mov (.t 7)⟩,
  ⟨some 32, none, .bin .add (.t 31) (.c (.int .i64 1))⟩,
  ⟨some 7, none, .mov (.t 32)⟩])
def c14_pianolalaw9_play : C :=
 .seq (.seq (.ops [⟨some 23, none, .mov (.t 7)⟩,
  ⟨some 24, none, .mov (.t 0)⟩,
  ⟨some 25, none, .len 1 (.t 24)⟩,
  ⟨some 26, none, .bin .lss (.t 23) (.t 25)⟩,
  ⟨some 27, none, .mov (.t 26)⟩,
  ⟨some 28, some (27, true), .mov (.t 7)⟩,
  ⟨some 29, some (27, true), .bin .lss (.t 28) (.c (.int .i64 80))⟩,
  ⟨some 30, none, .pick (.t 27) (.t 29) (.c (.bool false))⟩])
  (.cond (.t 30)
  (.skip)
  (.exit 0)))
  (c13_pianolalaw9_play)
def c15_pianolalaw9_play : C :=
 .seq (.ops [⟨some 20, none, .call n_wheel_New []⟩,
  ⟨some 21, none, .build [(.slice none 0 0), (.int .i64 0)] []⟩,
  ⟨some 22, none, .box (.t 21)⟩,
  ⟨some 5, none, .mov (.t 20)⟩,
  ⟨some 6, none, .mov (.t 22)⟩])
  (.seq (.seq (.ops [⟨some 7, none, .mov (.c (.int .i64 0))⟩])
  (.block 0
  (.loop c14_pianolalaw9_play)))
  (.seq (.ops [⟨some 164, none, .mov (.t 5)⟩,
  ⟨some 165, none, .eqn 0 true (.t 164)⟩,
  ⟨some 4, none, .mov (.t 165)⟩])
  (.ret)))
def c_pianolalaw9_play : C :=
 .seq (.ops [⟨some 4, none, .mov (.c (.bool false))⟩])
  (c15_pianolalaw9_play)
def f_pianolalaw9_play : F := ⟨c_pianolalaw9_play, [.t 4], some []⟩
theorem h_pianolalaw9_play : compF Try.prog (compAny Try.prog) n_pianolalaw9_play = some (f_pianolalaw9_play.body, f_pianolalaw9_play.res) := by kernel_rfl
/- pianola/timer.New -/
def c0_timer_New : C :=
 .seq (.seq (.ops [⟨some 5, none, .mov (.t 1)⟩,
  ⟨some 6, none, .eqn 0 false (.t 5)⟩])
  (.cond (.t 6)
  (.seq (.ops [⟨some 4, none, .mov (.c (.pointer none))⟩])
  (.ret))
  (.skip)))
  (.seq (.ops [⟨some 7, none, .mov (.t 0)⟩,
  ⟨some 8, none, .mov (.t 1)⟩,
  ⟨some 9, none, .build [(.int .i64 0), (.pointer none), (.int .u32 0), (.int .u32 0), (.int .u32 0)] [(0, 1, (.t 7)), (1, 1, (.t 8))]⟩,
  ⟨some 10, none, .box (.t 9)⟩,
  ⟨some 4, none, .mov (.t 10)⟩])
  (.ret))
def c_timer_New : C :=
 .seq (.ops [⟨some 4, none, .mov (.c (.pointer none))⟩])
  (c0_timer_New)
def f_timer_New : F := ⟨c_timer_New, [.t 4], some []⟩
theorem h_timer_New : compF Try.prog (compAny Try.prog) n_timer_New = some (f_timer_New.body, f_timer_New.res) := by kernel_rfl
/- (*pianola/timer.Timer).Write -/
def c0_timer_Timer_Write : C :=
 .any 0 [.op 0 ⟨some 23, none, .mov (.t 0)⟩,
  .op 1 ⟨some 24, none, .nilc (.t 23)⟩,
  .op 2 ⟨some 25, none, .fa 1 (.t 24)⟩,
  .op 3 ⟨some 26, none, .ld (.t 25)⟩,
  .op 4 ⟨some 27, none, .mov (.t 0)⟩,
  .op 5 ⟨some 28, none, .nilc (.t 27)⟩,
  .op 6 ⟨some 29, none, .fa 0 (.t 28)⟩,
  .op 7 ⟨some 30, none, .ld (.t 29)⟩,
  .op 8 ⟨some 31, none, .call n_wheel_Wheel_Cancel [(.t 26), (.t 30)]⟩]
def c1_timer_Timer_Write : C :=
 .seq (.ops [⟨some 17, none, .mov (.t 2)⟩,
  ⟨some 18, none, .bin .and (.t 17) (.c (.int .u32 1))⟩,
  ⟨some 19, none, .bin .neq (.t 18) (.c (.int .u32 0))⟩])
  (.cond (.t 19)
  (.ops [⟨some 20, none, .mov (.t 0)⟩,
  ⟨some 21, none, .mov (.t 3)⟩,
  ⟨some 22, none, .call n_timer_Timer_arm [(.t 20), (.t 21)]⟩])
  (c0_timer_Timer_Write))
def c2_timer_Timer_Write : C :=
 .seq (.ops [⟨some 40, none, .mov (.t 2)⟩,
  ⟨some 41, none, .bin .and (.t 40) (.c (.int .u32 1))⟩,
  ⟨some 42, none, .bin .neq (.t 41) (.c (.int .u32 0))⟩])
  (.cond (.t 42)
  (.ops [⟨some 43, none, .mov (.t 0)⟩,
  ⟨some 44, none, .nilc (.t 43)⟩,
  ⟨some 45, none, .fa 4 (.t 44)⟩,
  ⟨none, none, .st (.t 45) (.c (.int .u32 0))⟩])
  (.skip))
def c3_timer_Timer_Write : C :=
 .cond (.t 32)
  (.ops [⟨some 34, none, .mov (.t 0)⟩,
  ⟨some 35, none, .mov (.t 2)⟩,
  ⟨some 36, none, .nilc (.t 34)⟩,
  ⟨some 37, none, .fa 3 (.t 36)⟩,
  ⟨none, none, .st (.t 37) (.t 35)⟩])
  (.seq (.ops [⟨some 39, none, .bin .eql (.t 9) (.c (.int .u32 8))⟩,
  ⟨some 38, none, .mov (.t 39)⟩])
  (.cond (.t 38)
  (c2_timer_Timer_Write)
  (.seq (.ops [⟨some 8, none, .mov (.c (.bool false))⟩])
  (.ret))))
def c4_timer_Timer_Write : C :=
 .cond (.t 10)
  (.seq (.ops [⟨some 12, none, .mov (.t 0)⟩,
  ⟨some 13, none, .mov (.t 2)⟩,
  ⟨some 14, none, .bin .and (.t 13) (.c (.int .u32 3))⟩,
  ⟨some 15, none, .nilc (.t 12)⟩,
  ⟨some 16, none, .fa 2 (.t 15)⟩,
  ⟨none, none, .st (.t 16) (.t 14)⟩])
  (c1_timer_Timer_Write))
  (.seq (.ops [⟨some 33, none, .bin .eql (.t 9) (.c (.int .u32 4))⟩,
  ⟨some 32, none, .mov (.t 33)⟩])
  (c3_timer_Timer_Write))
def c_timer_Timer_Write : C :=
 .seq (.ops [⟨some 8, none, .mov (.c (.bool false))⟩])
  (.seq (.seq (.ops [⟨some 9, none, .mov (.t 1)⟩])
  (.block 0
  (.seq (.ops [⟨some 11, none, .bin .eql (.t 9) (.c (.int .u32 0))⟩,
  ⟨some 10, none, .mov (.t 11)⟩])
  (c4_timer_Timer_Write))))
  (.seq (.ops [⟨some 8, none, .mov (.c (.bool true))⟩])
  (.ret)))
def f_timer_Timer_Write : F := ⟨c_timer_Timer_Write, [.t 8], some []⟩
theorem h_timer_Timer_Write : compF Try.prog (compAny Try.prog) n_timer_Timer_Write = some (f_timer_Timer_Write.body, f_timer_Timer_Write.res) := by kernel_rfl
/- pianola/pianolabook.Within -/
def c0_pianolabook_Within : C :=
 .seq (.seq (.ops [⟨some 22, none, .mov (.t 0)⟩,
  ⟨some 23, none, .bin .lss (.t 22) (.c (.int .i64 0))⟩])
  (.cond (.t 23)
  (.ops [⟨some 24, none, .mov (.t 0)⟩,
  ⟨some 25, none, .mov (.t 2)⟩,
  ⟨some 26, none, .bin .add (.t 24) (.t 25)⟩,
  ⟨some 27, none, .mov (.t 1)⟩,
  ⟨some 28, none, .bin .sub (.t 26) (.t 27)⟩,
  ⟨some 29, none, .bin .add (.t 28) (.c (.int .i64 1))⟩,
  ⟨some 0, none, .mov (.t 29)⟩])
  (.skip)))
  (.seq (.ops [⟨some 30, none, .mov (.t 1)⟩,
  ⟨some 31, none, .mov (.t 0)⟩,
  ⟨some 32, none, .bin .add (.t 30) (.t 31)⟩,
  ⟨some 6, none, .mov (.t 32)⟩])
  (.ret))
def c1_pianolabook_Within : C :=
 .seq (.seq (.ops [⟨some 7, none, .mov (.t 0)⟩,
  ⟨some 8, none, .mov (.t 1)⟩,
  ⟨some 9, none, .bin .geq (.t 7) (.t 8)⟩,
  ⟨some 10, none, .mov (.t 9)⟩,
  ⟨some 11, some (10, true), .mov (.t 0)⟩,
  ⟨some 12, some (10, true), .mov (.t 2)⟩,
  ⟨some 13, some (10, true), .bin .leq (.t 11) (.t 12)⟩,
  ⟨some 14, none, .pick (.t 10) (.t 13) (.c (.bool false))⟩])
  (.cond (.t 14)
  (.seq (.ops [⟨some 15, none, .mov (.t 0)⟩,
  ⟨some 6, none, .mov (.t 15)⟩])
  (.ret))
  (.skip)))
  (.seq (.ops [⟨some 16, none, .mov (.t 0)⟩,
  ⟨some 17, none, .mov (.t 2)⟩,
  ⟨some 18, none, .mov (.t 1)⟩,
  ⟨some 19, none, .bin .sub (.t 17) (.t 18)⟩,
  ⟨some 20, none, .bin .add (.t 19) (.c (.int .i64 1))⟩,
  ⟨some 21, none, .bin .rem (.t 16) (.t 20)⟩,
  ⟨some 0, none, .mov (.t 21)⟩])
  (c0_pianolabook_Within))
def c_pianolabook_Within : C :=
 .seq (.ops [⟨some 6, none, .mov (.c (.int .i64 0))⟩])
  (c1_pianolabook_Within)
def f_pianolabook_Within : F := ⟨c_pianolabook_Within, [.t 6], some []⟩
theorem h_pianolabook_Within : compF Try.prog (compAny Try.prog) n_pianolabook_Within = some (f_pianolabook_Within.body, f_pianolabook_Within.res) := by kernel_rfl
/- (*pianola/timer.Timer).Fire -/
def c0_timer_Timer_Fire : C :=
 .cond (.t 12)
  (.ops [⟨some 13, none, .mov (.t 0)⟩,
  ⟨some 14, none, .mov (.t 1)⟩,
  ⟨some 15, none, .call n_timer_Timer_arm [(.t 13), (.t 14)]⟩])
  (.ops [⟨some 16, none, .mov (.t 0)⟩,
  ⟨some 17, none, .nilc (.t 16)⟩,
  ⟨some 18, none, .fa 2 (.t 17)⟩,
  ⟨some 19, none, .ld (.t 18)⟩,
  ⟨some 20, none, .bin .andNot (.t 19) (.c (.int .u32 1))⟩,
  ⟨some 21, none, .nilc (.t 16)⟩,
  ⟨some 22, none, .fa 2 (.t 21)⟩,
  ⟨none, none, .st (.t 22) (.t 20)⟩])
def c_timer_Timer_Fire : C :=
 .seq (.ops [⟨some 4, none, .mov (.t 0)⟩,
  ⟨some 5, none, .nilc (.t 4)⟩,
  ⟨some 6, none, .fa 4 (.t 5)⟩,
  ⟨none, none, .st (.t 6) (.c (.int .u32 1))⟩])
  (.seq (.ops [⟨some 7, none, .mov (.t 0)⟩,
  ⟨some 8, none, .nilc (.t 7)⟩,
  ⟨some 9, none, .fa 2 (.t 8)⟩,
  ⟨some 10, none, .ld (.t 9)⟩,
  ⟨some 11, none, .bin .and (.t 10) (.c (.int .u32 2))⟩,
  ⟨some 12, none, .bin .neq (.t 11) (.c (.int .u32 0))⟩])
  (c0_timer_Timer_Fire))
def f_timer_Timer_Fire : F := ⟨c_timer_Timer_Fire, [], some []⟩
theorem h_timer_Timer_Fire : compF Try.prog (compAny Try.prog) n_timer_Timer_Fire = some (f_timer_Timer_Fire.body, f_timer_Timer_Fire.res) := by kernel_rfl
/- (*pianola/timer.Timer).Line -/
def c_timer_Timer_Line : C :=
 .seq (.ops [⟨some 2, none, .mov (.c (.bool false))⟩])
  (.seq (.ops [⟨some 3, none, .mov (.t 0)⟩,
  ⟨some 4, none, .nilc (.t 3)⟩,
  ⟨some 5, none, .fa 4 (.t 4)⟩,
  ⟨some 6, none, .ld (.t 5)⟩,
  ⟨some 7, none, .bin .neq (.t 6) (.c (.int .u32 0))⟩,
  ⟨some 2, none, .mov (.t 7)⟩])
  (.ret))
def f_timer_Timer_Line : F := ⟨c_timer_Timer_Line, [.t 2], some []⟩
theorem h_timer_Timer_Line : compF Try.prog (compAny Try.prog) n_timer_Timer_Line = some (f_timer_Timer_Line.body, f_timer_Timer_Line.res) := by kernel_rfl
/- pianola/pianolalaw11.known -/
def c0_pianolalaw11_known : C :=
 .seq (.ops [⟨some 38, none, .mov (.t 3)⟩,
  ⟨some 39, none, .bin .eql (.t 38) (.c (.int .i64 15))⟩,
  ⟨some 40, none, .mov (.t 39)⟩,
  ⟨some 41, some (40, true), .mov (.t 4)⟩,
  ⟨some 42, none, .pick (.t 40) (.t 41) (.c (.bool false))⟩,
  ⟨some 43, none, .mov (.t 42)⟩,
  ⟨some 44, some (43, true), .mov (.t 6)⟩,
  ⟨some 45, some (43, true), .un .not (.t 44)⟩,
  ⟨some 46, none, .pick (.t 43) (.t 45) (.c (.bool false))⟩,
  ⟨some 47, none, .mov (.t 46)⟩,
  ⟨some 48, some (47, true), .mov (.t 2)⟩,
  ⟨some 49, some (47, true), .call n_timer_Timer_Line [(.t 48)]⟩,
  ⟨some 50, none, .pick (.t 47) (.t 49) (.c (.bool false))⟩,
  ⟨some 51, none, .mov (.t 50)⟩,
  ⟨some 52, some (51, true), .call n_timer_New [(.c (.int .i64 1)), (.c (.pointer none))]⟩,
  ⟨some 53, some (51, true), .eqn 0 false (.t 52)⟩,
  ⟨some 54, none, .pick (.t 51) (.t 53) (.c (.bool false))⟩,
  ⟨some 0, none, .mov (.t 54)⟩])
  (.ret)
def c1_pianolalaw11_known : C :=
 .seq (.ops [⟨some 32, none, .mov (.t 2)⟩,
  ⟨some 33, none, .call n_timer_Timer_Read [(.t 32), (.c (.int .u32 12))]⟩,
  ⟨some 31, none, .mov (.t 33)⟩,
  ⟨some 34, none, .ext (.t 31) 0⟩,
  ⟨some 35, none, .ext (.t 31) 1⟩,
  ⟨some 5, none, .mov (.t 34)⟩,
  ⟨some 6, none, .mov (.t 35)⟩])
  (.seq (.ops [⟨some 36, none, .mov (.t 2)⟩,
  ⟨some 37, none, .call n_timer_Timer_Fire [(.t 36), (.c (.int .i64 15))]⟩])
  (c0_pianolalaw11_known))
def c2_pianolalaw11_known : C :=
 .seq (.seq (.ops [⟨some 10, none, .mov (.t 1)⟩,
  ⟨some 11, none, .eqn 0 false (.t 10)⟩,
  ⟨some 12, none, .mov (.t 11)⟩,
  ⟨some 13, some (12, false), .mov (.t 2)⟩,
  ⟨some 14, some (12, false), .eqn 0 false (.t 13)⟩,
  ⟨some 15, none, .pick (.t 12) (.c (.bool true)) (.t 14)⟩,
  ⟨some 16, none, .mov (.t 15)⟩,
  ⟨some 17, some (16, false), .mov (.t 2)⟩,
  ⟨some 18, some (16, false), .call n_timer_Timer_Write [(.t 17), (.c (.int .u32 4)), (.c (.int .u32 5)), (.c (.int .i64 10))]⟩,
  ⟨some 19, some (16, false), .un .not (.t 18)⟩,
  ⟨some 20, none, .pick (.t 16) (.c (.bool true)) (.t 19)⟩,
  ⟨some 21, none, .mov (.t 20)⟩,
  ⟨some 22, some (21, false), .mov (.t 2)⟩,
  ⟨some 23, some (21, false), .call n_timer_Timer_Write [(.t 22), (.c (.int .u32 0)), (.c (.int .u32 1)), (.c (.int .i64 10))]⟩,
  ⟨some 24, some (21, false), .un .not (.t 23)⟩,
  ⟨some 25, none, .pick (.t 21) (.c (.bool true)) (.t 24)⟩])
  (.cond (.t 25)
  (.seq (.ops [⟨some 0, none, .mov (.c (.bool false))⟩])
  (.ret))
  (.skip)))
  (.seq (.ops [⟨some 27, none, .mov (.t 1)⟩,
  ⟨some 28, none, .call n_wheel_Wheel_At [(.t 27), (.c (.int .i64 1))]⟩,
  ⟨some 26, none, .mov (.t 28)⟩,
  ⟨some 29, none, .ext (.t 26) 0⟩,
  ⟨some 30, none, .ext (.t 26) 1⟩,
  ⟨some 3, none, .mov (.t 29)⟩,
  ⟨some 4, none, .mov (.t 30)⟩])
  (c1_pianolalaw11_known))
def c_pianolalaw11_known : C :=
 .seq (.ops [⟨some 0, none, .mov (.c (.bool false))⟩])
  (.seq (.ops [⟨some 7, none, .call n_wheel_New []⟩,
  ⟨some 1, none, .mov (.t 7)⟩])
  (.seq (.ops [⟨some 8, none, .mov (.t 1)⟩,
  ⟨some 9, none, .call n_timer_New [(.c (.int .i64 1)), (.t 8)]⟩,
  ⟨some 2, none, .mov (.t 9)⟩])
  (c2_pianolalaw11_known)))
def f_pianolalaw11_known : F := ⟨c_pianolalaw11_known, [.t 0], some []⟩
theorem h_pianolalaw11_known : compF Try.prog (compAny Try.prog) n_pianolalaw11_known = some (f_pianolalaw11_known.body, f_pianolalaw11_known.res) := by kernel_rfl
/- pianola/pianolalaw11.play -/
def c0_pianolalaw11_play : C :=
 .seq (.ops [⟨some 91, none, .mov (.t 13)⟩,
  ⟨some 92, none, .mov (.t 15)⟩,
  ⟨some 93, none, .bin .neq (.t 91) (.t 92)⟩,
  ⟨some 94, none, .mov (.t 93)⟩,
  ⟨some 95, some (94, false), .mov (.t 14)⟩,
  ⟨some 96, some (94, false), .mov (.t 16)⟩,
  ⟨some 97, some (94, false), .eqb true (.t 95) (.t 96)⟩,
  ⟨some 98, none, .pick (.t 94) (.c (.bool true)) (.t 97)⟩])
  (.cond (.t 98)
  (.seq (.ops [⟨some 4, none, .mov (.c (.bool false))⟩])
  (.ret))
  (.skip))
def c1_pianolalaw11_play : C :=
 .seq (.ops [⟨some 84, none, .mov (.t 7)⟩,
  ⟨some 85, none, .mov (.t 0)⟩,
  ⟨some 86, none, .mov (.t 11)⟩,
  ⟨some 87, none, .mov (.t 8)⟩,
  ⟨some 88, none, .call n_pianolaref15_Bus_Word [(.t 84), (.t 85), (.t 86), (.t 87)]⟩,
  ⟨some 83, none, .mov (.t 88)⟩,
  ⟨some 89, none, .ext (.t 83) 0⟩,
  ⟨some 90, none, .ext (.t 83) 1⟩,
  ⟨some 15, none, .mov (.t 89)⟩,
  ⟨some 16, none, .mov (.t 90)⟩])
  (c0_pianolalaw11_play)
def c2_pianolalaw11_play : C :=
 .seq (.block 4
  (.seq (.ops [⟨some 106, none, .mov (.t 5)⟩,
  ⟨some 107, none, .mov (.t 8)⟩,
  ⟨some 108, none, .call n_wheel_Wheel_Take [(.t 106), (.t 107)]⟩,
  ⟨some 105, none, .mov (.t 108)⟩,
  ⟨some 109, none, .ext (.t 105) 0⟩,
  ⟨some 110, none, .ext (.t 105) 1⟩,
  ⟨some 18, none, .new [(.int .i64 0), (.int .i64 0), (.int .i64 0)]⟩,
  ⟨none, none, .stn 3 (.t 18) (.t 109)⟩,
  ⟨some 19, none, .mov (.t 110)⟩])
  (.seq (.seq (.ops [⟨some 111, none, .mov (.t 19)⟩,
  ⟨some 112, none, .un .not (.t 111)⟩])
  (.cond (.t 112)
  (.exit 3)
  (.skip)))
  (.ops [⟨some 113, none, .mov (.t 6)⟩,
  ⟨some 114, none, .fa 0 (.t 18)⟩,
  ⟨some 115, none, .ld (.t 114)⟩,
  ⟨some 116, none, .call n_timer_Timer_Fire [(.t 113), (.t 115)]⟩]))))
  (.ops [⟨some 103, none, .mov (.t 17)⟩,
  ⟨some 104, none, .bin .add (.t 103) (.c (.int .i64 1))⟩,
  ⟨some 17, none, .mov (.t 104)⟩])
def c3_pianolalaw11_play : C :=
 .seq (.seq (.ops [⟨some 101, none, .mov (.t 17)⟩,
  ⟨some 102, none, .bin .lss (.t 101) (.c (.int .i64 30))⟩])
  (.cond (.t 102)
  (.skip)
  (.exit 3)))
  (c2_pianolalaw11_play)
def c4_pianolalaw11_play : C :=
 .seq (.block 6
  (.seq (.ops [⟨some 122, none, .mov (.t 7)⟩,
  ⟨some 123, none, .nilc (.t 122)⟩,
  ⟨some 124, none, .fa 1 (.t 123)⟩,
  ⟨some 125, none, .mov (.t 8)⟩,
  ⟨some 126, none, .call n_pianolaref9_Wheel_Take [(.t 124), (.t 125)]⟩,
  ⟨some 121, none, .mov (.t 126)⟩,
  ⟨some 127, none, .ext (.t 121) 0⟩,
  ⟨some 128, none, .ext (.t 121) 1⟩,
  ⟨some 21, none, .new [(.int .i64 0), (.int .i64 0), (.int .i64 0)]⟩,
  ⟨none, none, .stn 3 (.t 21) (.t 127)⟩,
  ⟨some 22, none, .mov (.t 128)⟩])
  (.seq (.ops [⟨some 129, none, .mov (.t 22)⟩])
  (.cond (.t 129)
  (.ops [⟨some 130, none, .mov (.t 7)⟩,
  ⟨some 131, none, .ldn 3 (.t 21)⟩,
  ⟨some 132, none, .call n_pianolaref15_Bus_B1 [(.t 130), (.t 131)]⟩])
  (.skip)))))
  (.ops [⟨some 119, none, .mov (.t 20)⟩,
  ⟨some 120, none, .bin .add (.t 119) (.c (.int .i64 1))⟩,
  ⟨some 20, none, .mov (.t 120)⟩])
def c5_pianolalaw11_play : C :=
 .seq (.seq (.ops [⟨some 117, none, .mov (.t 20)⟩,
  ⟨some 118, none, .bin .lss (.t 117) (.c (.int .i64 30))⟩])
  (.cond (.t 118)
  (.skip)
  (.exit 5)))
  (c4_pianolalaw11_play)
def c6_pianolalaw11_play : C :=
 .seq (.ops [⟨some 63, none, .mov (.t 6)⟩,
  ⟨some 64, none, .mov (.t 11)⟩,
  ⟨some 65, none, .mov (.t 12)⟩,
  ⟨some 66, none, .mov (.t 8)⟩,
  ⟨some 67, none, .call n_timer_Timer_Write [(.t 63), (.t 64), (.t 65), (.t 66)]⟩,
  ⟨some 68, none, .mov (.t 7)⟩,
  ⟨some 69, none, .mov (.t 0)⟩,
  ⟨some 70, none, .mov (.t 11)⟩,
  ⟨some 71, none, .mov (.t 12)⟩,
  ⟨some 72, none, .mov (.t 8)⟩,
  ⟨some 73, none, .call n_pianolaref15_Bus_Set [(.t 68), (.t 69), (.t 70), (.t 71), (.t 72)]⟩,
  ⟨some 74, none, .eqb true (.t 67) (.t 73)⟩])
  (.cond (.t 74)
  (.seq (.ops [⟨some 4, none, .mov (.c (.bool false))⟩])
  (.ret))
  (.skip))
def c7_pianolalaw11_play : C :=
 .seq (.ops [⟨some 134, none, .bin .eql (.t 62) (.c (.int .i64 4))⟩,
  ⟨some 133, none, .mov (.t 134)⟩])
  (.cond (.t 133)
  (.ops [⟨some 135, none, .mov (.t 8)⟩,
  ⟨some 136, none, .fa 3 (.t 10)⟩,
  ⟨some 137, none, .ld (.t 136)⟩,
  ⟨some 138, none, .call n_pianolabook_Within [(.t 137), (.c (.int .i64 0)), (.c (.int .i64 20))]⟩,
  ⟨some 139, none, .bin .add (.t 135) (.t 138)⟩,
  ⟨some 8, none, .mov (.t 139)⟩])
  (c6_pianolalaw11_play))
def c8_pianolalaw11_play : C :=
 .seq (.ops [⟨some 100, none, .bin .eql (.t 62) (.c (.int .i64 3))⟩,
  ⟨some 99, none, .mov (.t 100)⟩])
  (.cond (.t 99)
  (.seq (.seq (.ops [⟨some 17, none, .mov (.c (.int .i64 0))⟩])
  (.block 3
  (.loop c3_pianolalaw11_play)))
  (.seq (.ops [⟨some 20, none, .mov (.c (.int .i64 0))⟩])
  (.block 5
  (.loop c5_pianolalaw11_play))))
  (c7_pianolalaw11_play))
def c9_pianolalaw11_play : C :=
 .cond (.t 75)
  (.seq (.ops [⟨some 78, none, .mov (.t 6)⟩,
  ⟨some 79, none, .mov (.t 11)⟩,
  ⟨some 80, none, .call n_timer_Timer_Read [(.t 78), (.t 79)]⟩,
  ⟨some 77, none, .mov (.t 80)⟩,
  ⟨some 81, none, .ext (.t 77) 0⟩,
  ⟨some 82, none, .ext (.t 77) 1⟩,
  ⟨some 13, none, .mov (.t 81)⟩,
  ⟨some 14, none, .mov (.t 82)⟩])
  (c1_pianolalaw11_play))
  (c8_pianolalaw11_play)
def c10_pianolalaw11_play : C :=
 .seq (.any 0 [.op 0 ⟨some 140, none, .mov (.t 6)⟩,
  .op 1 ⟨some 141, none, .call n_timer_Timer_Line [(.t 140)]⟩,
  .op 2 ⟨some 142, none, .mov (.t 7)⟩,
  .op 3 ⟨some 143, none, .mov (.t 0)⟩,
  .op 4 ⟨some 144, none, .call n_pianolaref15_Bus_Line [(.t 142), (.t 143)]⟩,
  .op 5 ⟨some 145, none, .eqb true (.t 141) (.t 144)⟩,
  .op 6 ⟨some 146, none, .mov (.t 145)⟩,
  .op 9 ⟨some 149, some (146, false), .mov (.t 7)⟩,
  .op 10 ⟨some 150, some (146, false), .nilc (.t 149)⟩,
  .op 11 ⟨some 151, some (146, false), .fa 1 (.t 150)⟩,
  .op 12 ⟨some 152, some (146, false), .fa 0 (.t 151)⟩,
  .op 13 ⟨some 153, some (146, false), .ld (.t 152)⟩,
  .op 7 ⟨some 147, some (146, false), .mov (.t 5)⟩,
  .op 8 ⟨some 148, some (146, false), .call n_wheel_Wheel_All [(.t 147)]⟩,
  .re 13 ⟨some 153, some (146, false), .ld (.t 152)⟩,
  .op 14 ⟨some 154, some (146, false), .call n_pianolabook_Same_api_Event [(.t 148), (.t 153)]⟩,
  .op 15 ⟨some 155, some (146, false), .un .not (.t 154)⟩,
  .op 16 ⟨some 156, none, .pick (.t 146) (.c (.bool true)) (.t 155)⟩])
  (.cond (.t 156)
  (.seq (.ops [⟨some 4, none, .mov (.c (.bool false))⟩])
  (.ret))
  (.skip))
def c11_pianolalaw11_play : C :=
 .seq (.seq (.ops [⟨some 55, none, .fa 1 (.t 10)⟩,
  ⟨some 56, none, .ld (.t 55)⟩,
  ⟨some 57, none, .bin .rem (.t 56) (.c (.int .i64 3))⟩,
  ⟨some 58, none, .bin .neq (.t 57) (.c (.int .i64 0))⟩])
  (.cond (.t 58)
  (.ops [⟨some 59, none, .mov (.t 12)⟩,
  ⟨some 60, none, .bin .rem (.t 59) (.c (.int .u32 12))⟩,
  ⟨some 12, none, .mov (.t 60)⟩])
  (.skip)))
  (.seq (.seq (.ops [⟨some 61, none, .fa 0 (.t 10)⟩,
  ⟨some 62, none, .ld (.t 61)⟩])
  (.block 2
  (.seq (.ops [⟨some 76, none, .bin .eql (.t 62) (.c (.int .i64 2))⟩,
  ⟨some 75, none, .mov (.t 76)⟩])
  (c9_pianolalaw11_play))))
  (c10_pianolalaw11_play))
def c12_pianolalaw11_play : C :=
 .seq (.ops [⟨some 48, none, .fa 1 (.t 10)⟩,
  ⟨some 49, none, .ld (.t 48)⟩,
  ⟨some 50, none, .call n_pianolabook_Within [(.t 49), (.c (.int .i64 0)), (.c (.int .i64 4))]⟩,
  ⟨some 51, none, .conv .u32 (.t 50)⟩,
  ⟨some 52, none, .bin .mul (.t 51) (.c (.int .u32 4))⟩,
  ⟨some 11, none, .mov (.t 52)⟩])
  (.seq (.ops [⟨some 53, none, .fa 2 (.t 10)⟩,
  ⟨some 54, none, .ld (.t 53)⟩,
  ⟨some 12, none, .mov (.t 54)⟩])
  (c11_pianolalaw11_play))
def c13_pianolalaw11_play : C :=
 .seq (.block 1
  (.seq (.seq (.ops [⟨some 38, none, .mov (.t 5)⟩,
  ⟨some 39, none, .eqn 0 false (.t 38)⟩,
  ⟨some 40, none, .mov (.t 39)⟩,
  ⟨some 41, some (40, false), .mov (.t 6)⟩,
  ⟨some 42, some (40, false), .eqn 0 false (.t 41)⟩,
  ⟨some 43, none, .pick (.t 40) (.c (.bool true)) (.t 42)⟩])
  (.cond (.t 43)
  (.seq (.ops [⟨some 4, none, .mov (.c (.bool false))⟩])
  (.ret))
  (.skip)))
  (.seq (.ops [⟨some 44, none, .mov (.t 1)⟩,
  ⟨some 45, none, .mov (.t 9)⟩,
  ⟨some 46, none, .ia 5 (.t 44) (.t 45)⟩,
  ⟨some 47, none, .ldn 5 (.t 46)⟩,
  ⟨some 10, none, .new [(.int .i64 0), (.int .i64 0), (.int .u32 0), (.int .i64 0), (.int .u8 0)]⟩,
  ⟨none, none, .stn 5 (.t 10) (.t 47)⟩])
  (c12_pianolalaw11_play))))
  (.ops [⟨some 36, none, .mov (.t 9)⟩,
  ⟨some 37, none, .bin .add (.t 36) (.c (.int .i64 1))⟩,
  ⟨some 9, none, .mov (.t 37)⟩])
def c14_pianolalaw11_play : C :=
 .seq (.seq (.ops [⟨some 28, none, .mov (.t 9)⟩,
  ⟨some 29, none, .mov (.t 1)⟩,
  ⟨some 30, none, .len 1 (.t 29)⟩,
  ⟨some 31, none, .bin .lss (.t 28) (.t 30)⟩,
  ⟨some 32, none, .mov (.t 31)⟩,
  ⟨some 33, some (32, true), .mov (.t 9)⟩,
  ⟨some 34, some (32, true), .bin .lss (.t 33) (.c (.int .i64 80))⟩,
  ⟨some 35, none, .pick (.t 32) (.t 34) (.c (.bool false))⟩])
  (.cond (.t 35)
  (.skip)
  (.exit 0)))
  (c13_pianolalaw11_play)
def c15_pianolalaw11_play : C :=
 .seq (.ops [⟨some 27, none, .call n_pianolaref15_New [(.c (.int .i64 1)), (.c (.slice none 0 0)), (.c (.slice none 0 0))]⟩,
  ⟨some 7, none, .mov (.t 27)⟩])
  (.seq (.ops [⟨some 8, none, .mov (.c (.int .i64 0))⟩])
  (.seq (.seq (.ops [⟨some 9, none, .mov (.c (.int .i64 0))⟩])
  (.block 0
  (.loop c14_pianolalaw11_play)))
  (.seq (.ops [⟨some 157, none, .mov (.t 6)⟩,
  ⟨some 158, none, .eqn 0 true (.t 157)⟩,
  ⟨some 4, none, .mov (.t 158)⟩])
  (.ret))))
def c_pianolalaw11_play : C :=
 .seq (.ops [⟨some 4, none, .mov (.c (.bool false))⟩])
  (.seq (.ops [⟨some 23, none, .call n_wheel_New []⟩,
  ⟨some 5, none, .mov (.t 23)⟩])
  (.seq (.ops [⟨some 24, none, .mov (.t 0)⟩,
  ⟨some 25, none, .mov (.t 5)⟩,
  ⟨some 26, none, .call n_timer_New [(.t 24), (.t 25)]⟩,
  ⟨some 6, none, .mov (.t 26)⟩])
  (c15_pianolalaw11_play)))
def f_pianolalaw11_play : F := ⟨c_pianolalaw11_play, [.t 4], some []⟩
theorem h_pianolalaw11_play : compF Try.prog (compAny Try.prog) n_pianolalaw11_play = some (f_pianolalaw11_play.body, f_pianolalaw11_play.res) := by kernel_rfl
/- slices.Clone[[]pianola/input.Key,pianola/input.Key] -/
def c0_slices_Clone_input_Key_input_Key : C :=
 .seq (.seq (.ops [⟨some 3, none, .mov (.t 0)⟩,
  ⟨some 4, none, .eqn 1 false (.t 3)⟩])
  (.cond (.t 4)
  (.seq (.ops [⟨some 2, none, .mov (.c (.slice none 0 0))⟩])
  (.ret))
  (.skip)))
  (.seq (.ops [⟨some 5, none, .bsl 0 [] []⟩,
  ⟨some 6, none, .mov (.t 0)⟩,
  ⟨some 7, none, .app 2 16 (.t 5) (.t 6)⟩,
  ⟨some 2, none, .mov (.t 7)⟩])
  (.ret))
def c_slices_Clone_input_Key_input_Key : C :=
 .seq (.ops [⟨some 2, none, .mov (.c (.slice none 0 0))⟩])
  (c0_slices_Clone_input_Key_input_Key)
def f_slices_Clone_input_Key_input_Key : F := ⟨c_slices_Clone_input_Key_input_Key, [.t 2], some []⟩
theorem h_slices_Clone_input_Key_input_Key : compF Try.prog (compAny Try.prog) n_slices_Clone_input_Key_input_Key = some (f_slices_Clone_input_Key_input_Key.body, f_slices_Clone_input_Key_input_Key.res) := by kernel_rfl
/- slices.SortStableFunc[[]pianola/input.Key,pianola/input.Key] -/
def c_slices_SortStableFunc_input_Key_input_Key : C :=
 .ops [⟨some 4, none, .mov (.t 0)⟩,
  ⟨some 5, none, .mov (.t 0)⟩,
  ⟨some 6, none, .len 1 (.t 5)⟩,
  ⟨some 7, none, .mov (.t 1)⟩,
  ⟨some 8, none, .call n_slices_stableCmpFunc_input_Key [(.t 4), (.t 6), (.t 7)]⟩]
def f_slices_SortStableFunc_input_Key_input_Key : F := ⟨c_slices_SortStableFunc_input_Key_input_Key, [], some []⟩
theorem h_slices_SortStableFunc_input_Key_input_Key : compF Try.prog (compAny Try.prog) n_slices_SortStableFunc_input_Key_input_Key = some (f_slices_SortStableFunc_input_Key_input_Key.body, f_slices_SortStableFunc_input_Key_input_Key.res) := by kernel_rfl
/- pianola/input.New$1 -/
def c_input_New_1 : C :=
 .seq (.ops [⟨some 2, none, .box (.t 0)⟩,
  ⟨some 3, none, .box (.t 1)⟩,
  ⟨some 4, none, .mov (.c (.int .i64 0))⟩])
  (.seq (.ops [⟨some 5, none, .fa 0 (.t 2)⟩,
  ⟨some 6, none, .ld (.t 5)⟩,
  ⟨some 7, none, .fa 0 (.t 3)⟩,
  ⟨some 8, none, .ld (.t 7)⟩,
  ⟨some 9, none, .call n_cmp_Compare_int64 [(.t 6), (.t 8)]⟩,
  ⟨some 4, none, .mov (.t 9)⟩])
  (.ret))
def f_input_New_1 : F := ⟨c_input_New_1, [.t 4], some []⟩
theorem h_input_New_1 : compF Try.prog (compAny Try.prog) n_input_New_1 = some (f_input_New_1.body, f_input_New_1.res) := by kernel_rfl
/- cmp.Compare[int64] -/
def c0_cmp_Compare_int64 : C :=
 .seq (.seq (.ops [⟨some 14, none, .mov (.t 0)⟩,
  ⟨some 15, none, .mov (.t 1)⟩,
  ⟨some 16, none, .bin .lss (.t 14) (.t 15)⟩])
  (.cond (.t 16)
  (.seq (.ops [⟨some 4, none, .mov (.c (.int .i64 (-1)))⟩])
  (.ret))
  (.skip)))
  (.seq (.seq (.ops [⟨some 17, none, .mov (.t 0)⟩,
  ⟨some 18, none, .mov (.t 1)⟩,
  ⟨some 19, none, .bin .gtr (.t 17) (.t 18)⟩])
  (.cond (.t 19)
  (.seq (.ops [⟨some 4, none, .mov (.c (.int .i64 1))⟩])
  (.ret))
  (.skip)))
  (.seq (.ops [⟨some 4, none, .mov (.c (.int .i64 0))⟩])
  (.ret)))
def c1_cmp_Compare_int64 : C :=
 .seq (.seq (.ops [⟨some 11, none, .mov (.t 5)⟩])
  (.cond (.t 11)
  (.seq (.seq (.ops [⟨some 12, none, .mov (.t 6)⟩])
  (.cond (.t 12)
  (.seq (.ops [⟨some 4, none, .mov (.c (.int .i64 0))⟩])
  (.ret))
  (.skip)))
  (.seq (.ops [⟨some 4, none, .mov (.c (.int .i64 (-1)))⟩])
  (.ret)))
  (.skip)))
  (.seq (.seq (.ops [⟨some 13, none, .mov (.t 6)⟩])
  (.cond (.t 13)
  (.seq (.ops [⟨some 4, none, .mov (.c (.int .i64 1))⟩])
  (.ret))
  (.skip)))
  (c0_cmp_Compare_int64))
def c_cmp_Compare_int64 : C :=
 .seq (.ops [⟨some 4, none, .mov (.c (.int .i64 0))⟩])
  (.seq (.ops [⟨some 7, none, .mov (.t 0)⟩,
  ⟨some 8, none, .call n_cmp_isNaN_int64 [(.t 7)]⟩,
  ⟨some 5, none, .mov (.t 8)⟩])
  (.seq (.ops [⟨some 9, none, .mov (.t 1)⟩,
  ⟨some 10, none, .call n_cmp_isNaN_int64 [(.t 9)]⟩,
  ⟨some 6, none, .mov (.t 10)⟩])
  (c1_cmp_Compare_int64)))
def f_cmp_Compare_int64 : F := ⟨c_cmp_Compare_int64, [.t 4], some []⟩
theorem h_cmp_Compare_int64 : compF Try.prog (compAny Try.prog) n_cmp_Compare_int64 = some (f_cmp_Compare_int64.body, f_cmp_Compare_int64.res) := by kernel_rfl
/- pianola/pianolabook.Same[pianola/input.Key] -/
def c0_pianolabook_Same_input_Key : C :=
 .seq (.block 1
  (.seq (.any 0 [.op 0 ⟨some 17, none, .mov (.t 0)⟩,
  .op 1 ⟨some 18, none, .mov (.t 5)⟩,
  .op 2 ⟨some 19, none, .ia 2 (.t 17) (.t 18)⟩,
  .op 3 ⟨some 20, none, .ldn 2 (.t 19)⟩,
  .op 4 ⟨some 21, none, .mov (.t 1)⟩,
  .op 5 ⟨some 22, none, .mov (.t 5)⟩,
  .op 6 ⟨some 23, none, .ia 2 (.t 21) (.t 22)⟩,
  .op 7 ⟨some 24, none, .ldn 2 (.t 23)⟩,
  .op 8 ⟨some 25, none, .eqt true (.agg [(0, 1, false, (.int .i64)), (1, 1, false, (.int .u8))]) (.t 20) (.t 24)⟩])
  (.cond (.t 25)
  (.seq (.ops [⟨some 4, none, .mov (.c (.bool false))⟩])
  (.ret))
  (.skip))))
  (.ops [⟨some 15, none, .mov (.t 5)⟩,
  ⟨some 16, none, .bin .add (.t 15) (.c (.int .i64 1))⟩,
  ⟨some 5, none, .mov (.t 16)⟩])
def c1_pianolabook_Same_input_Key : C :=
 .seq (.seq (.ops [⟨some 11, none, .mov (.t 5)⟩,
  ⟨some 12, none, .mov (.t 0)⟩,
  ⟨some 13, none, .len 1 (.t 12)⟩,
  ⟨some 14, none, .bin .lss (.t 11) (.t 13)⟩])
  (.cond (.t 14)
  (.skip)
  (.exit 0)))
  (c0_pianolabook_Same_input_Key)
def c2_pianolabook_Same_input_Key : C :=
 .seq (.seq (.ops [⟨some 6, none, .mov (.t 0)⟩,
  ⟨some 7, none, .len 1 (.t 6)⟩,
  ⟨some 8, none, .mov (.t 1)⟩,
  ⟨some 9, none, .len 1 (.t 8)⟩,
  ⟨some 10, none, .bin .neq (.t 7) (.t 9)⟩])
  (.cond (.t 10)
  (.seq (.ops [⟨some 4, none, .mov (.c (.bool false))⟩])
  (.ret))
  (.skip)))
  (.seq (.seq (.ops [⟨some 5, none, .mov (.c (.int .i64 0))⟩])
  (.block 0
  (.loop c1_pianolabook_Same_input_Key)))
  (.seq (.ops [⟨some 4, none, .mov (.c (.bool true))⟩])
  (.ret)))
def c_pianolabook_Same_input_Key : C :=
 .seq (.ops [⟨some 4, none, .mov (.c (.bool false))⟩])
  (c2_pianolabook_Same_input_Key)
def f_pianolabook_Same_input_Key : F := ⟨c_pianolabook_Same_input_Key, [.t 4], some []⟩
theorem h_pianolabook_Same_input_Key : compF Try.prog (compAny Try.prog) n_pianolabook_Same_input_Key = some (f_pianolabook_Same_input_Key.body, f_pianolabook_Same_input_Key.res) := by kernel_rfl
end Go.Proofs.Ytppgoobhlcdbbaa.Cd
