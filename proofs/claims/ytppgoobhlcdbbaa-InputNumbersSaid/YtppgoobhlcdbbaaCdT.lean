/- The code of the functions that are reached, as the interpreter reads it. -/
import Derived.Test.YtppgoobhlcdbbaaCd5
import Derived.Test.YtppgoobhlcdbbaaSx6
set_option maxRecDepth 100000
set_option linter.defProp false
namespace Go.Proofs.Ytppgoobhlcdbbaa.Cd
open Go Go.Dx
def T : Nat → Option Dx.Fn := ins n_pianolalaw10_LinesNumbers (.code f_pianolalaw10_LinesNumbers) <| ins n_pianolalaw10_LinesPlays (.code f_pianolalaw10_LinesPlays) <| ins n_pianolalaw10_LinesMask (.code f_pianolalaw10_LinesMask) <| ins n_pianolalaw24_InputNumbers (.code f_pianolalaw24_InputNumbers) <| ins n_pianolalaw24_InputPlays (.code f_pianolalaw24_InputPlays) <| ins n_pianolalaw24_InputParts (.code f_pianolalaw24_InputParts) <| ins n_pianolalaw9_WheelOrder (.code f_pianolalaw9_WheelOrder) <| ins n_pianolalaw9_WheelAnew (.code f_pianolalaw9_WheelAnew) <| ins n_pianolalaw9_WheelNumbers (.code f_pianolalaw9_WheelNumbers) <| ins n_pianolalaw9_WheelPlays (.code f_pianolalaw9_WheelPlays) <| ins n_pianolalaw11_TimerAgain (.code f_pianolalaw11_TimerAgain) <| ins n_pianolalaw11_TimerNumbers (.code f_pianolalaw11_TimerNumbers) <| ins n_pianolalaw10_known (.code f_pianolalaw10_known) <| ins n_lines_New (.code f_lines_New) <| ins n_lines_Lines_Set (.code f_lines_Lines_Set) <| ins n_lines_Lines_Write (.code f_lines_Lines_Write) <| ins n_lines_Lines_Read (.code f_lines_Lines_Read) <| ins n_lines_Lines_Raised (.code f_lines_Lines_Raised) <| ins n_input_New (.code f_input_New) <| ins n_input_Plan_Left (.code f_input_Plan_Left) <| ins n_pianolalaw24_known (.code f_pianolalaw24_known) <| ins n_pianolabook_Roomy_input_Key (.code f_pianolabook_Roomy_input_Key) <| ins n_pianolalaw24_sorted (.code f_pianolalaw24_sorted) <| ins n_input_Plan_Next (.code f_input_Plan_Next) <| ins n_input_Plan_Take (.code f_input_Plan_Take) <| ins n_pianolabook_Intact_input_Key (.code f_pianolabook_Intact_input_Key) <| ins n_wheel_New (.code f_wheel_New) <| ins n_wheel_Wheel_Arm (.code f_wheel_Wheel_Arm) <| ins n_wheel_Wheel_Take (.code f_wheel_Wheel_Take) <| ins n_wheel_Wheel_All (.code f_wheel_Wheel_All) <| ins n_pianolalaw9_known (.code f_pianolalaw9_known) <| ins n_wheel_Wheel_Cancel (.code f_wheel_Wheel_Cancel) <| ins n_pianolalaw9_play (.code f_pianolalaw9_play) <| ins n_timer_New (.code f_timer_New) <| ins n_timer_Timer_Write (.code f_timer_Timer_Write) <| ins n_pianolabook_Within (.code f_pianolabook_Within) <| ins n_timer_Timer_Fire (.code f_timer_Timer_Fire) <| ins n_timer_Timer_Line (.code f_timer_Timer_Line) <| ins n_pianolalaw11_known (.code f_pianolalaw11_known) <| ins n_pianolalaw11_play (.code f_pianolalaw11_play) <| ins n_slices_Clone_input_Key_input_Key (.code f_slices_Clone_input_Key_input_Key) <| ins n_slices_SortStableFunc_input_Key_input_Key (.code f_slices_SortStableFunc_input_Key_input_Key) <| ins n_input_New_1 (.code f_input_New_1) <| ins n_cmp_Compare_int64 (.code f_cmp_Compare_int64) <| ins n_pianolabook_Same_input_Key (.code f_pianolabook_Same_input_Key) <| ins n_slices_SortStableFunc_api_Event_api_Event (.code f_slices_SortStableFunc_api_Event_api_Event) <| ins n_wheel_Wheel_Arm_1 (.code f_wheel_Wheel_Arm_1) <| ins n_wheel_Wheel_Next (.code f_wheel_Wheel_Next) <| ins n_slices_Delete_api_Event_api_Event (.code f_slices_Delete_api_Event_api_Event) <| ins n_slices_Clone_api_Event_api_Event (.code f_slices_Clone_api_Event_api_Event) <| ins n_wheel_Wheel_find (.code f_wheel_Wheel_find) <| ins n_pianolaref9_Wheel_Cancel (.code f_pianolaref9_Wheel_Cancel) <| ins n_pianolaref9_Wheel_Take (.code f_pianolaref9_Wheel_Take) <| ins n_pianolaref9_Wheel_Arm (.code f_pianolaref9_Wheel_Arm) <| ins n_wheel_Wheel_At (.code f_wheel_Wheel_At) <| ins n_pianolaref9_Wheel_At (.code f_pianolaref9_Wheel_At) <| ins n_pianolabook_Same_api_Event (.code f_pianolabook_Same_api_Event) <| ins n_timer_Timer_arm (.code f_timer_Timer_arm) <| ins n_timer_Timer_Read (.code f_timer_Timer_Read) <| ins n_pianolaref15_New (.code f_pianolaref15_New) <| ins n_pianolaref15_Bus_Word (.code f_pianolaref15_Bus_Word) <| ins n_pianolaref15_Bus_B1 (.code f_pianolaref15_Bus_B1) <| ins n_pianolaref15_Bus_Set (.code f_pianolaref15_Bus_Set) <| ins n_pianolaref15_Bus_Line (.code f_pianolaref15_Bus_Line) <| ins n_slices_stableCmpFunc_input_Key (.code f_slices_stableCmpFunc_input_Key) <| ins n_cmp_isNaN_int64 (.code f_cmp_isNaN_int64) <| ins n_slices_stableCmpFunc_api_Event (.code f_slices_stableCmpFunc_api_Event) <| ins n_slices_IndexFunc_api_Event_api_Event (.code f_slices_IndexFunc_api_Event_api_Event) <| ins n_wheel_Wheel_find_1 (.code f_wheel_Wheel_find_1) <| ins n_pianolaref2_New (.code f_pianolaref2_New) <| ins n_pianolaref15_bit (.code f_pianolaref15_bit) <| ins n_pianolaref15_Bus_move (.code f_pianolaref15_Bus_move) <| ins n_pianolaref15_Bus_sector (.code f_pianolaref15_Bus_sector) <| ins n_pianolaref15_Bus_timer (.code f_pianolaref15_Bus_timer) <| ins n_pianolaref15_Bus_uart (.code f_pianolaref15_Bus_uart) <| ins n_pianolaref15_Bus_dma (.code f_pianolaref15_Bus_dma) <| ins n_pianolaref15_Bus_disk (.code f_pianolaref15_Bus_disk) <| ins n_slices_insertionSortCmpFunc_input_Key (.code f_slices_insertionSortCmpFunc_input_Key) <| ins n_slices_symMergeCmpFunc_input_Key (.code f_slices_symMergeCmpFunc_input_Key) <| ins n_slices_insertionSortCmpFunc_api_Event (.code f_slices_insertionSortCmpFunc_api_Event) <| ins n_slices_symMergeCmpFunc_api_Event (.code f_slices_symMergeCmpFunc_api_Event) <| ins n_pianolaref2_Ram_In (.code f_pianolaref2_Ram_In) <| ins n_pianolaref2_Ram_Bytes (.code f_pianolaref2_Ram_Bytes) <| ins n_pianolaref2_Ram_Put (.code f_pianolaref2_Ram_Put) <| ins n_slices_rotateCmpFunc_input_Key (.code f_slices_rotateCmpFunc_input_Key) <| ins n_slices_rotateCmpFunc_api_Event (.code f_slices_rotateCmpFunc_api_Event) <| ins n_pianolaref2_Ram_touch (.code f_pianolaref2_Ram_touch) <| ins n_slices_swapRangeCmpFunc_input_Key (.code f_slices_swapRangeCmpFunc_input_Key) <| ins n_slices_swapRangeCmpFunc_api_Event (.code f_slices_swapRangeCmpFunc_api_Event) <| fun _ => none
theorem T_pianolalaw10_LinesNumbers : T n_pianolalaw10_LinesNumbers = some (.code f_pianolalaw10_LinesNumbers) := rfl
theorem T_pianolalaw10_LinesPlays : T n_pianolalaw10_LinesPlays = some (.code f_pianolalaw10_LinesPlays) := rfl
theorem T_pianolalaw10_LinesMask : T n_pianolalaw10_LinesMask = some (.code f_pianolalaw10_LinesMask) := rfl
theorem T_pianolalaw24_InputNumbers : T n_pianolalaw24_InputNumbers = some (.code f_pianolalaw24_InputNumbers) := rfl
theorem T_pianolalaw24_InputPlays : T n_pianolalaw24_InputPlays = some (.code f_pianolalaw24_InputPlays) := rfl
theorem T_pianolalaw24_InputParts : T n_pianolalaw24_InputParts = some (.code f_pianolalaw24_InputParts) := rfl
theorem T_pianolalaw9_WheelOrder : T n_pianolalaw9_WheelOrder = some (.code f_pianolalaw9_WheelOrder) := rfl
theorem T_pianolalaw9_WheelAnew : T n_pianolalaw9_WheelAnew = some (.code f_pianolalaw9_WheelAnew) := rfl
theorem T_pianolalaw9_WheelNumbers : T n_pianolalaw9_WheelNumbers = some (.code f_pianolalaw9_WheelNumbers) := rfl
theorem T_pianolalaw9_WheelPlays : T n_pianolalaw9_WheelPlays = some (.code f_pianolalaw9_WheelPlays) := rfl
theorem T_pianolalaw11_TimerAgain : T n_pianolalaw11_TimerAgain = some (.code f_pianolalaw11_TimerAgain) := rfl
theorem T_pianolalaw11_TimerNumbers : T n_pianolalaw11_TimerNumbers = some (.code f_pianolalaw11_TimerNumbers) := rfl
theorem T_pianolalaw10_known : T n_pianolalaw10_known = some (.code f_pianolalaw10_known) := rfl
theorem T_lines_New : T n_lines_New = some (.code f_lines_New) := rfl
theorem T_lines_Lines_Set : T n_lines_Lines_Set = some (.code f_lines_Lines_Set) := rfl
theorem T_lines_Lines_Write : T n_lines_Lines_Write = some (.code f_lines_Lines_Write) := rfl
theorem T_lines_Lines_Read : T n_lines_Lines_Read = some (.code f_lines_Lines_Read) := rfl
theorem T_lines_Lines_Raised : T n_lines_Lines_Raised = some (.code f_lines_Lines_Raised) := rfl
theorem T_input_New : T n_input_New = some (.code f_input_New) := rfl
theorem T_input_Plan_Left : T n_input_Plan_Left = some (.code f_input_Plan_Left) := rfl
theorem T_pianolalaw24_known : T n_pianolalaw24_known = some (.code f_pianolalaw24_known) := rfl
theorem T_pianolabook_Roomy_input_Key : T n_pianolabook_Roomy_input_Key = some (.code f_pianolabook_Roomy_input_Key) := rfl
theorem T_pianolalaw24_sorted : T n_pianolalaw24_sorted = some (.code f_pianolalaw24_sorted) := rfl
theorem T_input_Plan_Next : T n_input_Plan_Next = some (.code f_input_Plan_Next) := rfl
theorem T_input_Plan_Take : T n_input_Plan_Take = some (.code f_input_Plan_Take) := rfl
theorem T_pianolabook_Intact_input_Key : T n_pianolabook_Intact_input_Key = some (.code f_pianolabook_Intact_input_Key) := rfl
theorem T_wheel_New : T n_wheel_New = some (.code f_wheel_New) := rfl
theorem T_wheel_Wheel_Arm : T n_wheel_Wheel_Arm = some (.code f_wheel_Wheel_Arm) := rfl
theorem T_wheel_Wheel_Take : T n_wheel_Wheel_Take = some (.code f_wheel_Wheel_Take) := rfl
theorem T_wheel_Wheel_All : T n_wheel_Wheel_All = some (.code f_wheel_Wheel_All) := rfl
theorem T_pianolalaw9_known : T n_pianolalaw9_known = some (.code f_pianolalaw9_known) := rfl
theorem T_wheel_Wheel_Cancel : T n_wheel_Wheel_Cancel = some (.code f_wheel_Wheel_Cancel) := rfl
theorem T_pianolalaw9_play : T n_pianolalaw9_play = some (.code f_pianolalaw9_play) := rfl
theorem T_timer_New : T n_timer_New = some (.code f_timer_New) := rfl
theorem T_timer_Timer_Write : T n_timer_Timer_Write = some (.code f_timer_Timer_Write) := rfl
theorem T_pianolabook_Within : T n_pianolabook_Within = some (.code f_pianolabook_Within) := rfl
theorem T_timer_Timer_Fire : T n_timer_Timer_Fire = some (.code f_timer_Timer_Fire) := rfl
theorem T_timer_Timer_Line : T n_timer_Timer_Line = some (.code f_timer_Timer_Line) := rfl
theorem T_pianolalaw11_known : T n_pianolalaw11_known = some (.code f_pianolalaw11_known) := rfl
theorem T_pianolalaw11_play : T n_pianolalaw11_play = some (.code f_pianolalaw11_play) := rfl
theorem T_slices_Clone_input_Key_input_Key : T n_slices_Clone_input_Key_input_Key = some (.code f_slices_Clone_input_Key_input_Key) := rfl
theorem T_slices_SortStableFunc_input_Key_input_Key : T n_slices_SortStableFunc_input_Key_input_Key = some (.code f_slices_SortStableFunc_input_Key_input_Key) := rfl
theorem T_input_New_1 : T n_input_New_1 = some (.code f_input_New_1) := rfl
theorem T_cmp_Compare_int64 : T n_cmp_Compare_int64 = some (.code f_cmp_Compare_int64) := rfl
theorem T_pianolabook_Same_input_Key : T n_pianolabook_Same_input_Key = some (.code f_pianolabook_Same_input_Key) := rfl
theorem T_slices_SortStableFunc_api_Event_api_Event : T n_slices_SortStableFunc_api_Event_api_Event = some (.code f_slices_SortStableFunc_api_Event_api_Event) := rfl
theorem T_wheel_Wheel_Arm_1 : T n_wheel_Wheel_Arm_1 = some (.code f_wheel_Wheel_Arm_1) := rfl
theorem T_wheel_Wheel_Next : T n_wheel_Wheel_Next = some (.code f_wheel_Wheel_Next) := rfl
theorem T_slices_Delete_api_Event_api_Event : T n_slices_Delete_api_Event_api_Event = some (.code f_slices_Delete_api_Event_api_Event) := rfl
theorem T_slices_Clone_api_Event_api_Event : T n_slices_Clone_api_Event_api_Event = some (.code f_slices_Clone_api_Event_api_Event) := rfl
theorem T_wheel_Wheel_find : T n_wheel_Wheel_find = some (.code f_wheel_Wheel_find) := rfl
theorem T_pianolaref9_Wheel_Cancel : T n_pianolaref9_Wheel_Cancel = some (.code f_pianolaref9_Wheel_Cancel) := rfl
theorem T_pianolaref9_Wheel_Take : T n_pianolaref9_Wheel_Take = some (.code f_pianolaref9_Wheel_Take) := rfl
theorem T_pianolaref9_Wheel_Arm : T n_pianolaref9_Wheel_Arm = some (.code f_pianolaref9_Wheel_Arm) := rfl
theorem T_wheel_Wheel_At : T n_wheel_Wheel_At = some (.code f_wheel_Wheel_At) := rfl
theorem T_pianolaref9_Wheel_At : T n_pianolaref9_Wheel_At = some (.code f_pianolaref9_Wheel_At) := rfl
theorem T_pianolabook_Same_api_Event : T n_pianolabook_Same_api_Event = some (.code f_pianolabook_Same_api_Event) := rfl
theorem T_timer_Timer_arm : T n_timer_Timer_arm = some (.code f_timer_Timer_arm) := rfl
theorem T_timer_Timer_Read : T n_timer_Timer_Read = some (.code f_timer_Timer_Read) := rfl
theorem T_pianolaref15_New : T n_pianolaref15_New = some (.code f_pianolaref15_New) := rfl
theorem T_pianolaref15_Bus_Word : T n_pianolaref15_Bus_Word = some (.code f_pianolaref15_Bus_Word) := rfl
theorem T_pianolaref15_Bus_B1 : T n_pianolaref15_Bus_B1 = some (.code f_pianolaref15_Bus_B1) := rfl
theorem T_pianolaref15_Bus_Set : T n_pianolaref15_Bus_Set = some (.code f_pianolaref15_Bus_Set) := rfl
theorem T_pianolaref15_Bus_Line : T n_pianolaref15_Bus_Line = some (.code f_pianolaref15_Bus_Line) := rfl
theorem T_slices_stableCmpFunc_input_Key : T n_slices_stableCmpFunc_input_Key = some (.code f_slices_stableCmpFunc_input_Key) := rfl
theorem T_cmp_isNaN_int64 : T n_cmp_isNaN_int64 = some (.code f_cmp_isNaN_int64) := rfl
theorem T_slices_stableCmpFunc_api_Event : T n_slices_stableCmpFunc_api_Event = some (.code f_slices_stableCmpFunc_api_Event) := rfl
theorem T_slices_IndexFunc_api_Event_api_Event : T n_slices_IndexFunc_api_Event_api_Event = some (.code f_slices_IndexFunc_api_Event_api_Event) := rfl
theorem T_wheel_Wheel_find_1 : T n_wheel_Wheel_find_1 = some (.code f_wheel_Wheel_find_1) := rfl
theorem T_pianolaref2_New : T n_pianolaref2_New = some (.code f_pianolaref2_New) := rfl
theorem T_pianolaref15_bit : T n_pianolaref15_bit = some (.code f_pianolaref15_bit) := rfl
theorem T_pianolaref15_Bus_move : T n_pianolaref15_Bus_move = some (.code f_pianolaref15_Bus_move) := rfl
theorem T_pianolaref15_Bus_sector : T n_pianolaref15_Bus_sector = some (.code f_pianolaref15_Bus_sector) := rfl
theorem T_pianolaref15_Bus_timer : T n_pianolaref15_Bus_timer = some (.code f_pianolaref15_Bus_timer) := rfl
theorem T_pianolaref15_Bus_uart : T n_pianolaref15_Bus_uart = some (.code f_pianolaref15_Bus_uart) := rfl
theorem T_pianolaref15_Bus_dma : T n_pianolaref15_Bus_dma = some (.code f_pianolaref15_Bus_dma) := rfl
theorem T_pianolaref15_Bus_disk : T n_pianolaref15_Bus_disk = some (.code f_pianolaref15_Bus_disk) := rfl
theorem T_slices_insertionSortCmpFunc_input_Key : T n_slices_insertionSortCmpFunc_input_Key = some (.code f_slices_insertionSortCmpFunc_input_Key) := rfl
theorem T_slices_symMergeCmpFunc_input_Key : T n_slices_symMergeCmpFunc_input_Key = some (.code f_slices_symMergeCmpFunc_input_Key) := rfl
theorem T_slices_insertionSortCmpFunc_api_Event : T n_slices_insertionSortCmpFunc_api_Event = some (.code f_slices_insertionSortCmpFunc_api_Event) := rfl
theorem T_slices_symMergeCmpFunc_api_Event : T n_slices_symMergeCmpFunc_api_Event = some (.code f_slices_symMergeCmpFunc_api_Event) := rfl
theorem T_pianolaref2_Ram_In : T n_pianolaref2_Ram_In = some (.code f_pianolaref2_Ram_In) := rfl
theorem T_pianolaref2_Ram_Bytes : T n_pianolaref2_Ram_Bytes = some (.code f_pianolaref2_Ram_Bytes) := rfl
theorem T_pianolaref2_Ram_Put : T n_pianolaref2_Ram_Put = some (.code f_pianolaref2_Ram_Put) := rfl
theorem T_slices_rotateCmpFunc_input_Key : T n_slices_rotateCmpFunc_input_Key = some (.code f_slices_rotateCmpFunc_input_Key) := rfl
theorem T_slices_rotateCmpFunc_api_Event : T n_slices_rotateCmpFunc_api_Event = some (.code f_slices_rotateCmpFunc_api_Event) := rfl
theorem T_pianolaref2_Ram_touch : T n_pianolaref2_Ram_touch = some (.code f_pianolaref2_Ram_touch) := rfl
theorem T_slices_swapRangeCmpFunc_input_Key : T n_slices_swapRangeCmpFunc_input_Key = some (.code f_slices_swapRangeCmpFunc_input_Key) := rfl
theorem T_slices_swapRangeCmpFunc_api_Event : T n_slices_swapRangeCmpFunc_api_Event = some (.code f_slices_swapRangeCmpFunc_api_Event) := rfl
section
variable {h : Hp} {q : Value → Hp → Prop} {l : List Value}
@[simp] def g0_pianolalaw10_LinesNumbers := G_unf c0_pianolalaw10_LinesNumbers.eq_1
@[simp] def g1_pianolalaw10_LinesNumbers := G_unf c1_pianolalaw10_LinesNumbers.eq_1
@[simp] def g2_pianolalaw10_LinesNumbers := G_unf c2_pianolalaw10_LinesNumbers.eq_1
@[simp] def g_pianolalaw10_LinesNumbers := G_unf c_pianolalaw10_LinesNumbers.eq_1
theorem w_pianolalaw10_LinesNumbers : WC T n_pianolalaw10_LinesNumbers l h q ↔ G T (fin [.t 0] (some []) h.next q) c_pianolalaw10_LinesNumbers [] (envOf l) h := WC_G T_pianolalaw10_LinesNumbers
@[simp] def g0_pianolalaw10_LinesPlays := G_unf c0_pianolalaw10_LinesPlays.eq_1
@[simp] def g1_pianolalaw10_LinesPlays := G_unf c1_pianolalaw10_LinesPlays.eq_1
@[simp] def g2_pianolalaw10_LinesPlays := G_unf c2_pianolalaw10_LinesPlays.eq_1
@[simp] def g3_pianolalaw10_LinesPlays := G_unf c3_pianolalaw10_LinesPlays.eq_1
@[simp] def g4_pianolalaw10_LinesPlays := G_unf c4_pianolalaw10_LinesPlays.eq_1
@[simp] def g5_pianolalaw10_LinesPlays := G_unf c5_pianolalaw10_LinesPlays.eq_1
@[simp] def g6_pianolalaw10_LinesPlays := G_unf c6_pianolalaw10_LinesPlays.eq_1
@[simp] def g7_pianolalaw10_LinesPlays := G_unf c7_pianolalaw10_LinesPlays.eq_1
@[simp] def g8_pianolalaw10_LinesPlays := G_unf c8_pianolalaw10_LinesPlays.eq_1
@[simp] def g9_pianolalaw10_LinesPlays := G_unf c9_pianolalaw10_LinesPlays.eq_1
@[simp] def g10_pianolalaw10_LinesPlays := G_unf c10_pianolalaw10_LinesPlays.eq_1
@[simp] def g11_pianolalaw10_LinesPlays := G_unf c11_pianolalaw10_LinesPlays.eq_1
@[simp] def g12_pianolalaw10_LinesPlays := G_unf c12_pianolalaw10_LinesPlays.eq_1
@[simp] def g13_pianolalaw10_LinesPlays := G_unf c13_pianolalaw10_LinesPlays.eq_1
@[simp] def g14_pianolalaw10_LinesPlays := G_unf c14_pianolalaw10_LinesPlays.eq_1
@[simp] def g15_pianolalaw10_LinesPlays := G_unf c15_pianolalaw10_LinesPlays.eq_1
@[simp] def g16_pianolalaw10_LinesPlays := G_unf c16_pianolalaw10_LinesPlays.eq_1
@[simp] def g17_pianolalaw10_LinesPlays := G_unf c17_pianolalaw10_LinesPlays.eq_1
@[simp] def g_pianolalaw10_LinesPlays := G_unf c_pianolalaw10_LinesPlays.eq_1
theorem w_pianolalaw10_LinesPlays : WC T n_pianolalaw10_LinesPlays l h q ↔ G T (fin [.t 2] (some []) h.next q) c_pianolalaw10_LinesPlays [] (envOf l) h := WC_G T_pianolalaw10_LinesPlays
@[simp] def g0_pianolalaw10_LinesMask := G_unf c0_pianolalaw10_LinesMask.eq_1
@[simp] def g1_pianolalaw10_LinesMask := G_unf c1_pianolalaw10_LinesMask.eq_1
@[simp] def g2_pianolalaw10_LinesMask := G_unf c2_pianolalaw10_LinesMask.eq_1
@[simp] def g3_pianolalaw10_LinesMask := G_unf c3_pianolalaw10_LinesMask.eq_1
@[simp] def g4_pianolalaw10_LinesMask := G_unf c4_pianolalaw10_LinesMask.eq_1
@[simp] def g_pianolalaw10_LinesMask := G_unf c_pianolalaw10_LinesMask.eq_1
theorem w_pianolalaw10_LinesMask : WC T n_pianolalaw10_LinesMask l h q ↔ G T (fin [.t 4] (some []) h.next q) c_pianolalaw10_LinesMask [] (envOf l) h := WC_G T_pianolalaw10_LinesMask
@[simp] def g0_pianolalaw24_InputNumbers := G_unf c0_pianolalaw24_InputNumbers.eq_1
@[simp] def g1_pianolalaw24_InputNumbers := G_unf c1_pianolalaw24_InputNumbers.eq_1
@[simp] def g2_pianolalaw24_InputNumbers := G_unf c2_pianolalaw24_InputNumbers.eq_1
@[simp] def g3_pianolalaw24_InputNumbers := G_unf c3_pianolalaw24_InputNumbers.eq_1
@[simp] def g_pianolalaw24_InputNumbers := G_unf c_pianolalaw24_InputNumbers.eq_1
theorem w_pianolalaw24_InputNumbers : WC T n_pianolalaw24_InputNumbers l h q ↔ G T (fin [.t 0] (some []) h.next q) c_pianolalaw24_InputNumbers [] (envOf l) h := WC_G T_pianolalaw24_InputNumbers
@[simp] def g0_pianolalaw24_InputPlays := G_unf c0_pianolalaw24_InputPlays.eq_1
@[simp] def g1_pianolalaw24_InputPlays := G_unf c1_pianolalaw24_InputPlays.eq_1
@[simp] def g2_pianolalaw24_InputPlays := G_unf c2_pianolalaw24_InputPlays.eq_1
@[simp] def g3_pianolalaw24_InputPlays := G_unf c3_pianolalaw24_InputPlays.eq_1
@[simp] def g4_pianolalaw24_InputPlays := G_unf c4_pianolalaw24_InputPlays.eq_1
@[simp] def g5_pianolalaw24_InputPlays := G_unf c5_pianolalaw24_InputPlays.eq_1
@[simp] def g6_pianolalaw24_InputPlays := G_unf c6_pianolalaw24_InputPlays.eq_1
@[simp] def g7_pianolalaw24_InputPlays := G_unf c7_pianolalaw24_InputPlays.eq_1
@[simp] def g8_pianolalaw24_InputPlays := G_unf c8_pianolalaw24_InputPlays.eq_1
@[simp] def g9_pianolalaw24_InputPlays := G_unf c9_pianolalaw24_InputPlays.eq_1
@[simp] def g10_pianolalaw24_InputPlays := G_unf c10_pianolalaw24_InputPlays.eq_1
@[simp] def g_pianolalaw24_InputPlays := G_unf c_pianolalaw24_InputPlays.eq_1
theorem w_pianolalaw24_InputPlays : WC T n_pianolalaw24_InputPlays l h q ↔ G T (fin [.t 4] (some []) h.next q) c_pianolalaw24_InputPlays [] (envOf l) h := WC_G T_pianolalaw24_InputPlays
@[simp] def g0_pianolalaw24_InputParts := G_unf c0_pianolalaw24_InputParts.eq_1
@[simp] def g1_pianolalaw24_InputParts := G_unf c1_pianolalaw24_InputParts.eq_1
@[simp] def g2_pianolalaw24_InputParts := G_unf c2_pianolalaw24_InputParts.eq_1
@[simp] def g3_pianolalaw24_InputParts := G_unf c3_pianolalaw24_InputParts.eq_1
@[simp] def g4_pianolalaw24_InputParts := G_unf c4_pianolalaw24_InputParts.eq_1
@[simp] def g5_pianolalaw24_InputParts := G_unf c5_pianolalaw24_InputParts.eq_1
@[simp] def g6_pianolalaw24_InputParts := G_unf c6_pianolalaw24_InputParts.eq_1
@[simp] def g7_pianolalaw24_InputParts := G_unf c7_pianolalaw24_InputParts.eq_1
@[simp] def g8_pianolalaw24_InputParts := G_unf c8_pianolalaw24_InputParts.eq_1
@[simp] def g_pianolalaw24_InputParts := G_unf c_pianolalaw24_InputParts.eq_1
theorem w_pianolalaw24_InputParts : WC T n_pianolalaw24_InputParts l h q ↔ G T (fin [.t 4] (some []) h.next q) c_pianolalaw24_InputParts [] (envOf l) h := WC_G T_pianolalaw24_InputParts
@[simp] def g0_pianolalaw9_WheelOrder := G_unf c0_pianolalaw9_WheelOrder.eq_1
@[simp] def g1_pianolalaw9_WheelOrder := G_unf c1_pianolalaw9_WheelOrder.eq_1
@[simp] def g2_pianolalaw9_WheelOrder := G_unf c2_pianolalaw9_WheelOrder.eq_1
@[simp] def g3_pianolalaw9_WheelOrder := G_unf c3_pianolalaw9_WheelOrder.eq_1
@[simp] def g4_pianolalaw9_WheelOrder := G_unf c4_pianolalaw9_WheelOrder.eq_1
@[simp] def g5_pianolalaw9_WheelOrder := G_unf c5_pianolalaw9_WheelOrder.eq_1
@[simp] def g6_pianolalaw9_WheelOrder := G_unf c6_pianolalaw9_WheelOrder.eq_1
@[simp] def g7_pianolalaw9_WheelOrder := G_unf c7_pianolalaw9_WheelOrder.eq_1
@[simp] def g8_pianolalaw9_WheelOrder := G_unf c8_pianolalaw9_WheelOrder.eq_1
@[simp] def g_pianolalaw9_WheelOrder := G_unf c_pianolalaw9_WheelOrder.eq_1
theorem w_pianolalaw9_WheelOrder : WC T n_pianolalaw9_WheelOrder l h q ↔ G T (fin [.t 2] (some []) h.next q) c_pianolalaw9_WheelOrder [] (envOf l) h := WC_G T_pianolalaw9_WheelOrder
@[simp] def g0_pianolalaw9_WheelAnew := G_unf c0_pianolalaw9_WheelAnew.eq_1
@[simp] def g1_pianolalaw9_WheelAnew := G_unf c1_pianolalaw9_WheelAnew.eq_1
@[simp] def g2_pianolalaw9_WheelAnew := G_unf c2_pianolalaw9_WheelAnew.eq_1
@[simp] def g3_pianolalaw9_WheelAnew := G_unf c3_pianolalaw9_WheelAnew.eq_1
@[simp] def g4_pianolalaw9_WheelAnew := G_unf c4_pianolalaw9_WheelAnew.eq_1
@[simp] def g5_pianolalaw9_WheelAnew := G_unf c5_pianolalaw9_WheelAnew.eq_1
@[simp] def g6_pianolalaw9_WheelAnew := G_unf c6_pianolalaw9_WheelAnew.eq_1
@[simp] def g_pianolalaw9_WheelAnew := G_unf c_pianolalaw9_WheelAnew.eq_1
theorem w_pianolalaw9_WheelAnew : WC T n_pianolalaw9_WheelAnew l h q ↔ G T (fin [.t 6] (some []) h.next q) c_pianolalaw9_WheelAnew [] (envOf l) h := WC_G T_pianolalaw9_WheelAnew
@[simp] def g0_pianolalaw9_WheelNumbers := G_unf c0_pianolalaw9_WheelNumbers.eq_1
@[simp] def g1_pianolalaw9_WheelNumbers := G_unf c1_pianolalaw9_WheelNumbers.eq_1
@[simp] def g2_pianolalaw9_WheelNumbers := G_unf c2_pianolalaw9_WheelNumbers.eq_1
@[simp] def g_pianolalaw9_WheelNumbers := G_unf c_pianolalaw9_WheelNumbers.eq_1
theorem w_pianolalaw9_WheelNumbers : WC T n_pianolalaw9_WheelNumbers l h q ↔ G T (fin [.t 0] (some []) h.next q) c_pianolalaw9_WheelNumbers [] (envOf l) h := WC_G T_pianolalaw9_WheelNumbers
@[simp] def g0_pianolalaw9_WheelPlays := G_unf c0_pianolalaw9_WheelPlays.eq_1
@[simp] def g_pianolalaw9_WheelPlays := G_unf c_pianolalaw9_WheelPlays.eq_1
theorem w_pianolalaw9_WheelPlays : WC T n_pianolalaw9_WheelPlays l h q ↔ G T (fin [.t 2] (some []) h.next q) c_pianolalaw9_WheelPlays [] (envOf l) h := WC_G T_pianolalaw9_WheelPlays
@[simp] def g0_pianolalaw11_TimerAgain := G_unf c0_pianolalaw11_TimerAgain.eq_1
@[simp] def g1_pianolalaw11_TimerAgain := G_unf c1_pianolalaw11_TimerAgain.eq_1
@[simp] def g2_pianolalaw11_TimerAgain := G_unf c2_pianolalaw11_TimerAgain.eq_1
@[simp] def g3_pianolalaw11_TimerAgain := G_unf c3_pianolalaw11_TimerAgain.eq_1
@[simp] def g4_pianolalaw11_TimerAgain := G_unf c4_pianolalaw11_TimerAgain.eq_1
@[simp] def g5_pianolalaw11_TimerAgain := G_unf c5_pianolalaw11_TimerAgain.eq_1
@[simp] def g6_pianolalaw11_TimerAgain := G_unf c6_pianolalaw11_TimerAgain.eq_1
@[simp] def g7_pianolalaw11_TimerAgain := G_unf c7_pianolalaw11_TimerAgain.eq_1
@[simp] def g8_pianolalaw11_TimerAgain := G_unf c8_pianolalaw11_TimerAgain.eq_1
@[simp] def g_pianolalaw11_TimerAgain := G_unf c_pianolalaw11_TimerAgain.eq_1
theorem w_pianolalaw11_TimerAgain : WC T n_pianolalaw11_TimerAgain l h q ↔ G T (fin [.t 6] (some []) h.next q) c_pianolalaw11_TimerAgain [] (envOf l) h := WC_G T_pianolalaw11_TimerAgain
@[simp] def g0_pianolalaw11_TimerNumbers := G_unf c0_pianolalaw11_TimerNumbers.eq_1
@[simp] def g1_pianolalaw11_TimerNumbers := G_unf c1_pianolalaw11_TimerNumbers.eq_1
@[simp] def g2_pianolalaw11_TimerNumbers := G_unf c2_pianolalaw11_TimerNumbers.eq_1
@[simp] def g_pianolalaw11_TimerNumbers := G_unf c_pianolalaw11_TimerNumbers.eq_1
theorem w_pianolalaw11_TimerNumbers : WC T n_pianolalaw11_TimerNumbers l h q ↔ G T (fin [.t 0] (some []) h.next q) c_pianolalaw11_TimerNumbers [] (envOf l) h := WC_G T_pianolalaw11_TimerNumbers
@[simp] def g0_pianolalaw10_known := G_unf c0_pianolalaw10_known.eq_1
@[simp] def g1_pianolalaw10_known := G_unf c1_pianolalaw10_known.eq_1
@[simp] def g2_pianolalaw10_known := G_unf c2_pianolalaw10_known.eq_1
@[simp] def g_pianolalaw10_known := G_unf c_pianolalaw10_known.eq_1
theorem w_pianolalaw10_known : WC T n_pianolalaw10_known l h q ↔ G T (fin [.t 0] (some []) h.next q) c_pianolalaw10_known [] (envOf l) h := WC_G T_pianolalaw10_known
@[simp] def g_lines_New := G_unf c_lines_New.eq_1
theorem w_lines_New : WC T n_lines_New l h q ↔ G T (fin [.t 0] (some []) h.next q) c_lines_New [] (envOf l) h := WC_G T_lines_New
@[simp] def g0_lines_Lines_Set := G_unf c0_lines_Lines_Set.eq_1
@[simp] def g1_lines_Lines_Set := G_unf c1_lines_Lines_Set.eq_1
@[simp] def g_lines_Lines_Set := G_unf c_lines_Lines_Set.eq_1
theorem w_lines_Lines_Set : WC T n_lines_Lines_Set l h q ↔ G T (fin [] (some []) h.next q) c_lines_Lines_Set [] (envOf l) h := WC_G T_lines_Lines_Set
@[simp] def g0_lines_Lines_Write := G_unf c0_lines_Lines_Write.eq_1
@[simp] def g1_lines_Lines_Write := G_unf c1_lines_Lines_Write.eq_1
@[simp] def g_lines_Lines_Write := G_unf c_lines_Lines_Write.eq_1
theorem w_lines_Lines_Write : WC T n_lines_Lines_Write l h q ↔ G T (fin [.t 6] (some []) h.next q) c_lines_Lines_Write [] (envOf l) h := WC_G T_lines_Lines_Write
@[simp] def g0_lines_Lines_Read := G_unf c0_lines_Lines_Read.eq_1
@[simp] def g1_lines_Lines_Read := G_unf c1_lines_Lines_Read.eq_1
@[simp] def g2_lines_Lines_Read := G_unf c2_lines_Lines_Read.eq_1
@[simp] def g_lines_Lines_Read := G_unf c_lines_Lines_Read.eq_1
theorem w_lines_Lines_Read : WC T n_lines_Lines_Read l h q ↔ G T (fin [.t 6, .t 7] (some []) h.next q) c_lines_Lines_Read [] (envOf l) h := WC_G T_lines_Lines_Read
@[simp] def g0_lines_Lines_Raised := G_unf c0_lines_Lines_Raised.eq_1
@[simp] def g_lines_Lines_Raised := G_unf c_lines_Lines_Raised.eq_1
theorem w_lines_Lines_Raised : WC T n_lines_Lines_Raised l h q ↔ G T (fin [.t 2] (some []) h.next q) c_lines_Lines_Raised [] (envOf l) h := WC_G T_lines_Lines_Raised
@[simp] def g0_input_New := G_unf c0_input_New.eq_1
@[simp] def g_input_New := G_unf c_input_New.eq_1
theorem w_input_New : WC T n_input_New l h q ↔ G T (fin [.t 2] (some []) h.next q) c_input_New [] (envOf l) h := WC_G T_input_New
@[simp] def g_input_Plan_Left := G_unf c_input_Plan_Left.eq_1
theorem w_input_Plan_Left : WC T n_input_Plan_Left l h q ↔ G T (fin [.t 2] (some []) h.next q) c_input_Plan_Left [] (envOf l) h := WC_G T_input_Plan_Left
@[simp] def g0_pianolalaw24_known := G_unf c0_pianolalaw24_known.eq_1
@[simp] def g1_pianolalaw24_known := G_unf c1_pianolalaw24_known.eq_1
@[simp] def g2_pianolalaw24_known := G_unf c2_pianolalaw24_known.eq_1
@[simp] def g3_pianolalaw24_known := G_unf c3_pianolalaw24_known.eq_1
@[simp] def g_pianolalaw24_known := G_unf c_pianolalaw24_known.eq_1
theorem w_pianolalaw24_known : WC T n_pianolalaw24_known l h q ↔ G T (fin [.t 0] (some []) h.next q) c_pianolalaw24_known [] (envOf l) h := WC_G T_pianolalaw24_known
@[simp] def g0_pianolabook_Roomy_input_Key := G_unf c0_pianolabook_Roomy_input_Key.eq_1
@[simp] def g1_pianolabook_Roomy_input_Key := G_unf c1_pianolabook_Roomy_input_Key.eq_1
@[simp] def g2_pianolabook_Roomy_input_Key := G_unf c2_pianolabook_Roomy_input_Key.eq_1
@[simp] def g_pianolabook_Roomy_input_Key := G_unf c_pianolabook_Roomy_input_Key.eq_1
theorem w_pianolabook_Roomy_input_Key : WC T n_pianolabook_Roomy_input_Key l h q ↔ G T (fin [.t 4] (some []) h.next q) c_pianolabook_Roomy_input_Key [] (envOf l) h := WC_G T_pianolabook_Roomy_input_Key
@[simp] def g0_pianolalaw24_sorted := G_unf c0_pianolalaw24_sorted.eq_1
@[simp] def g1_pianolalaw24_sorted := G_unf c1_pianolalaw24_sorted.eq_1
@[simp] def g2_pianolalaw24_sorted := G_unf c2_pianolalaw24_sorted.eq_1
@[simp] def g_pianolalaw24_sorted := G_unf c_pianolalaw24_sorted.eq_1
theorem w_pianolalaw24_sorted : WC T n_pianolalaw24_sorted l h q ↔ G T (fin [.t 2] (some []) h.next q) c_pianolalaw24_sorted [] (envOf l) h := WC_G T_pianolalaw24_sorted
@[simp] def g0_input_Plan_Next := G_unf c0_input_Plan_Next.eq_1
@[simp] def g1_input_Plan_Next := G_unf c1_input_Plan_Next.eq_1
@[simp] def g_input_Plan_Next := G_unf c_input_Plan_Next.eq_1
theorem w_input_Plan_Next : WC T n_input_Plan_Next l h q ↔ G T (fin [.t 2, .t 3] (some []) h.next q) c_input_Plan_Next [] (envOf l) h := WC_G T_input_Plan_Next
@[simp] def g0_input_Plan_Take := G_unf c0_input_Plan_Take.eq_1
@[simp] def g1_input_Plan_Take := G_unf c1_input_Plan_Take.eq_1
@[simp] def g2_input_Plan_Take := G_unf c2_input_Plan_Take.eq_1
@[simp] def g_input_Plan_Take := G_unf c_input_Plan_Take.eq_1
theorem w_input_Plan_Take : WC T n_input_Plan_Take l h q ↔ G T (fin [.t 4] (some []) h.next q) c_input_Plan_Take [] (envOf l) h := WC_G T_input_Plan_Take
@[simp] def g0_pianolabook_Intact_input_Key := G_unf c0_pianolabook_Intact_input_Key.eq_1
@[simp] def g1_pianolabook_Intact_input_Key := G_unf c1_pianolabook_Intact_input_Key.eq_1
@[simp] def g2_pianolabook_Intact_input_Key := G_unf c2_pianolabook_Intact_input_Key.eq_1
@[simp] def g_pianolabook_Intact_input_Key := G_unf c_pianolabook_Intact_input_Key.eq_1
theorem w_pianolabook_Intact_input_Key : WC T n_pianolabook_Intact_input_Key l h q ↔ G T (fin [.t 6] (some []) h.next q) c_pianolabook_Intact_input_Key [] (envOf l) h := WC_G T_pianolabook_Intact_input_Key
@[simp] def g_wheel_New := G_unf c_wheel_New.eq_1
theorem w_wheel_New : WC T n_wheel_New l h q ↔ G T (fin [.t 0] (some []) h.next q) c_wheel_New [] (envOf l) h := WC_G T_wheel_New
@[simp] def g0_wheel_Wheel_Arm := G_unf c0_wheel_Wheel_Arm.eq_1
@[simp] def g1_wheel_Wheel_Arm := G_unf c1_wheel_Wheel_Arm.eq_1
@[simp] def g2_wheel_Wheel_Arm := G_unf c2_wheel_Wheel_Arm.eq_1
@[simp] def g_wheel_Wheel_Arm := G_unf c_wheel_Wheel_Arm.eq_1
theorem w_wheel_Wheel_Arm : WC T n_wheel_Wheel_Arm l h q ↔ G T (fin [.t 6] (some []) h.next q) c_wheel_Wheel_Arm [] (envOf l) h := WC_G T_wheel_Wheel_Arm
@[simp] def g0_wheel_Wheel_Take := G_unf c0_wheel_Wheel_Take.eq_1
@[simp] def g1_wheel_Wheel_Take := G_unf c1_wheel_Wheel_Take.eq_1
@[simp] def g2_wheel_Wheel_Take := G_unf c2_wheel_Wheel_Take.eq_1
@[simp] def g_wheel_Wheel_Take := G_unf c_wheel_Wheel_Take.eq_1
theorem w_wheel_Wheel_Take : WC T n_wheel_Wheel_Take l h q ↔ G T (fin [.ldn 3 4, .t 5] (some []) h.next q) c_wheel_Wheel_Take [] (envOf l) h := WC_G T_wheel_Wheel_Take
@[simp] def g_wheel_Wheel_All := G_unf c_wheel_Wheel_All.eq_1
theorem w_wheel_Wheel_All : WC T n_wheel_Wheel_All l h q ↔ G T (fin [.t 2] (some []) h.next q) c_wheel_Wheel_All [] (envOf l) h := WC_G T_wheel_Wheel_All
@[simp] def g0_pianolalaw9_known := G_unf c0_pianolalaw9_known.eq_1
@[simp] def g1_pianolalaw9_known := G_unf c1_pianolalaw9_known.eq_1
@[simp] def g2_pianolalaw9_known := G_unf c2_pianolalaw9_known.eq_1
@[simp] def g3_pianolalaw9_known := G_unf c3_pianolalaw9_known.eq_1
@[simp] def g_pianolalaw9_known := G_unf c_pianolalaw9_known.eq_1
theorem w_pianolalaw9_known : WC T n_pianolalaw9_known l h q ↔ G T (fin [.t 0] (some []) h.next q) c_pianolalaw9_known [] (envOf l) h := WC_G T_pianolalaw9_known
@[simp] def g0_wheel_Wheel_Cancel := G_unf c0_wheel_Wheel_Cancel.eq_1
@[simp] def g1_wheel_Wheel_Cancel := G_unf c1_wheel_Wheel_Cancel.eq_1
@[simp] def g_wheel_Wheel_Cancel := G_unf c_wheel_Wheel_Cancel.eq_1
theorem w_wheel_Wheel_Cancel : WC T n_wheel_Wheel_Cancel l h q ↔ G T (fin [.t 4] (some []) h.next q) c_wheel_Wheel_Cancel [] (envOf l) h := WC_G T_wheel_Wheel_Cancel
@[simp] def g0_pianolalaw9_play := G_unf c0_pianolalaw9_play.eq_1
@[simp] def g1_pianolalaw9_play := G_unf c1_pianolalaw9_play.eq_1
@[simp] def g2_pianolalaw9_play := G_unf c2_pianolalaw9_play.eq_1
@[simp] def g3_pianolalaw9_play := G_unf c3_pianolalaw9_play.eq_1
@[simp] def g4_pianolalaw9_play := G_unf c4_pianolalaw9_play.eq_1
@[simp] def g5_pianolalaw9_play := G_unf c5_pianolalaw9_play.eq_1
@[simp] def g6_pianolalaw9_play := G_unf c6_pianolalaw9_play.eq_1
@[simp] def g7_pianolalaw9_play := G_unf c7_pianolalaw9_play.eq_1
@[simp] def g8_pianolalaw9_play := G_unf c8_pianolalaw9_play.eq_1
@[simp] def g9_pianolalaw9_play := G_unf c9_pianolalaw9_play.eq_1
@[simp] def g10_pianolalaw9_play := G_unf c10_pianolalaw9_play.eq_1
@[simp] def g11_pianolalaw9_play := G_unf c11_pianolalaw9_play.eq_1
@[simp] def g12_pianolalaw9_play := G_unf c12_pianolalaw9_play.eq_1
@[simp] def g13_pianolalaw9_play := G_unf c13_pianolalaw9_play.eq_1
@[simp] def g14_pianolalaw9_play := G_unf c14_pianolalaw9_play.eq_1
@[simp] def g15_pianolalaw9_play := G_unf c15_pianolalaw9_play.eq_1
@[simp] def g_pianolalaw9_play := G_unf c_pianolalaw9_play.eq_1
theorem w_pianolalaw9_play : WC T n_pianolalaw9_play l h q ↔ G T (fin [.t 4] (some []) h.next q) c_pianolalaw9_play [] (envOf l) h := WC_G T_pianolalaw9_play
@[simp] def g0_timer_New := G_unf c0_timer_New.eq_1
@[simp] def g_timer_New := G_unf c_timer_New.eq_1
theorem w_timer_New : WC T n_timer_New l h q ↔ G T (fin [.t 4] (some []) h.next q) c_timer_New [] (envOf l) h := WC_G T_timer_New
@[simp] def g0_timer_Timer_Write := G_unf c0_timer_Timer_Write.eq_1
@[simp] def g1_timer_Timer_Write := G_unf c1_timer_Timer_Write.eq_1
@[simp] def g2_timer_Timer_Write := G_unf c2_timer_Timer_Write.eq_1
@[simp] def g3_timer_Timer_Write := G_unf c3_timer_Timer_Write.eq_1
@[simp] def g4_timer_Timer_Write := G_unf c4_timer_Timer_Write.eq_1
@[simp] def g_timer_Timer_Write := G_unf c_timer_Timer_Write.eq_1
theorem w_timer_Timer_Write : WC T n_timer_Timer_Write l h q ↔ G T (fin [.t 8] (some []) h.next q) c_timer_Timer_Write [] (envOf l) h := WC_G T_timer_Timer_Write
@[simp] def g0_pianolabook_Within := G_unf c0_pianolabook_Within.eq_1
@[simp] def g1_pianolabook_Within := G_unf c1_pianolabook_Within.eq_1
@[simp] def g_pianolabook_Within := G_unf c_pianolabook_Within.eq_1
theorem w_pianolabook_Within : WC T n_pianolabook_Within l h q ↔ G T (fin [.t 6] (some []) h.next q) c_pianolabook_Within [] (envOf l) h := WC_G T_pianolabook_Within
@[simp] def g0_timer_Timer_Fire := G_unf c0_timer_Timer_Fire.eq_1
@[simp] def g_timer_Timer_Fire := G_unf c_timer_Timer_Fire.eq_1
theorem w_timer_Timer_Fire : WC T n_timer_Timer_Fire l h q ↔ G T (fin [] (some []) h.next q) c_timer_Timer_Fire [] (envOf l) h := WC_G T_timer_Timer_Fire
@[simp] def g_timer_Timer_Line := G_unf c_timer_Timer_Line.eq_1
theorem w_timer_Timer_Line : WC T n_timer_Timer_Line l h q ↔ G T (fin [.t 2] (some []) h.next q) c_timer_Timer_Line [] (envOf l) h := WC_G T_timer_Timer_Line
@[simp] def g0_pianolalaw11_known := G_unf c0_pianolalaw11_known.eq_1
@[simp] def g1_pianolalaw11_known := G_unf c1_pianolalaw11_known.eq_1
@[simp] def g2_pianolalaw11_known := G_unf c2_pianolalaw11_known.eq_1
@[simp] def g_pianolalaw11_known := G_unf c_pianolalaw11_known.eq_1
theorem w_pianolalaw11_known : WC T n_pianolalaw11_known l h q ↔ G T (fin [.t 0] (some []) h.next q) c_pianolalaw11_known [] (envOf l) h := WC_G T_pianolalaw11_known
@[simp] def g0_pianolalaw11_play := G_unf c0_pianolalaw11_play.eq_1
@[simp] def g1_pianolalaw11_play := G_unf c1_pianolalaw11_play.eq_1
@[simp] def g2_pianolalaw11_play := G_unf c2_pianolalaw11_play.eq_1
@[simp] def g3_pianolalaw11_play := G_unf c3_pianolalaw11_play.eq_1
@[simp] def g4_pianolalaw11_play := G_unf c4_pianolalaw11_play.eq_1
@[simp] def g5_pianolalaw11_play := G_unf c5_pianolalaw11_play.eq_1
@[simp] def g6_pianolalaw11_play := G_unf c6_pianolalaw11_play.eq_1
@[simp] def g7_pianolalaw11_play := G_unf c7_pianolalaw11_play.eq_1
@[simp] def g8_pianolalaw11_play := G_unf c8_pianolalaw11_play.eq_1
@[simp] def g9_pianolalaw11_play := G_unf c9_pianolalaw11_play.eq_1
@[simp] def g10_pianolalaw11_play := G_unf c10_pianolalaw11_play.eq_1
@[simp] def g11_pianolalaw11_play := G_unf c11_pianolalaw11_play.eq_1
@[simp] def g12_pianolalaw11_play := G_unf c12_pianolalaw11_play.eq_1
@[simp] def g13_pianolalaw11_play := G_unf c13_pianolalaw11_play.eq_1
@[simp] def g14_pianolalaw11_play := G_unf c14_pianolalaw11_play.eq_1
@[simp] def g15_pianolalaw11_play := G_unf c15_pianolalaw11_play.eq_1
@[simp] def g_pianolalaw11_play := G_unf c_pianolalaw11_play.eq_1
theorem w_pianolalaw11_play : WC T n_pianolalaw11_play l h q ↔ G T (fin [.t 4] (some []) h.next q) c_pianolalaw11_play [] (envOf l) h := WC_G T_pianolalaw11_play
@[simp] def g0_slices_Clone_input_Key_input_Key := G_unf c0_slices_Clone_input_Key_input_Key.eq_1
@[simp] def g_slices_Clone_input_Key_input_Key := G_unf c_slices_Clone_input_Key_input_Key.eq_1
theorem w_slices_Clone_input_Key_input_Key : WC T n_slices_Clone_input_Key_input_Key l h q ↔ G T (fin [.t 2] (some []) h.next q) c_slices_Clone_input_Key_input_Key [] (envOf l) h := WC_G T_slices_Clone_input_Key_input_Key
@[simp] def g_slices_SortStableFunc_input_Key_input_Key := G_unf c_slices_SortStableFunc_input_Key_input_Key.eq_1
theorem w_slices_SortStableFunc_input_Key_input_Key : WC T n_slices_SortStableFunc_input_Key_input_Key l h q ↔ G T (fin [] (some []) h.next q) c_slices_SortStableFunc_input_Key_input_Key [] (envOf l) h := WC_G T_slices_SortStableFunc_input_Key_input_Key
@[simp] def g_input_New_1 := G_unf c_input_New_1.eq_1
theorem w_input_New_1 : WC T n_input_New_1 l h q ↔ G T (fin [.t 4] (some []) h.next q) c_input_New_1 [] (envOf l) h := WC_G T_input_New_1
@[simp] def g0_cmp_Compare_int64 := G_unf c0_cmp_Compare_int64.eq_1
@[simp] def g1_cmp_Compare_int64 := G_unf c1_cmp_Compare_int64.eq_1
@[simp] def g_cmp_Compare_int64 := G_unf c_cmp_Compare_int64.eq_1
theorem w_cmp_Compare_int64 : WC T n_cmp_Compare_int64 l h q ↔ G T (fin [.t 4] (some []) h.next q) c_cmp_Compare_int64 [] (envOf l) h := WC_G T_cmp_Compare_int64
@[simp] def g0_pianolabook_Same_input_Key := G_unf c0_pianolabook_Same_input_Key.eq_1
@[simp] def g1_pianolabook_Same_input_Key := G_unf c1_pianolabook_Same_input_Key.eq_1
@[simp] def g2_pianolabook_Same_input_Key := G_unf c2_pianolabook_Same_input_Key.eq_1
@[simp] def g_pianolabook_Same_input_Key := G_unf c_pianolabook_Same_input_Key.eq_1
theorem w_pianolabook_Same_input_Key : WC T n_pianolabook_Same_input_Key l h q ↔ G T (fin [.t 4] (some []) h.next q) c_pianolabook_Same_input_Key [] (envOf l) h := WC_G T_pianolabook_Same_input_Key
@[simp] def g_slices_SortStableFunc_api_Event_api_Event := G_unf c_slices_SortStableFunc_api_Event_api_Event.eq_1
theorem w_slices_SortStableFunc_api_Event_api_Event : WC T n_slices_SortStableFunc_api_Event_api_Event l h q ↔ G T (fin [] (some []) h.next q) c_slices_SortStableFunc_api_Event_api_Event [] (envOf l) h := WC_G T_slices_SortStableFunc_api_Event_api_Event
@[simp] def g_wheel_Wheel_Arm_1 := G_unf c_wheel_Wheel_Arm_1.eq_1
theorem w_wheel_Wheel_Arm_1 : WC T n_wheel_Wheel_Arm_1 l h q ↔ G T (fin [.t 4] (some []) h.next q) c_wheel_Wheel_Arm_1 [] (envOf l) h := WC_G T_wheel_Wheel_Arm_1
@[simp] def g0_wheel_Wheel_Next := G_unf c0_wheel_Wheel_Next.eq_1
@[simp] def g1_wheel_Wheel_Next := G_unf c1_wheel_Wheel_Next.eq_1
@[simp] def g_wheel_Wheel_Next := G_unf c_wheel_Wheel_Next.eq_1
theorem w_wheel_Wheel_Next : WC T n_wheel_Wheel_Next l h q ↔ G T (fin [.t 2, .t 3] (some []) h.next q) c_wheel_Wheel_Next [] (envOf l) h := WC_G T_wheel_Wheel_Next
@[simp] def g0_slices_Delete_api_Event_api_Event := G_unf c0_slices_Delete_api_Event_api_Event.eq_1
@[simp] def g1_slices_Delete_api_Event_api_Event := G_unf c1_slices_Delete_api_Event_api_Event.eq_1
@[simp] def g2_slices_Delete_api_Event_api_Event := G_unf c2_slices_Delete_api_Event_api_Event.eq_1
@[simp] def g_slices_Delete_api_Event_api_Event := G_unf c_slices_Delete_api_Event_api_Event.eq_1
theorem w_slices_Delete_api_Event_api_Event : WC T n_slices_Delete_api_Event_api_Event l h q ↔ G T (fin [.t 6] (some []) h.next q) c_slices_Delete_api_Event_api_Event [] (envOf l) h := WC_G T_slices_Delete_api_Event_api_Event
@[simp] def g0_slices_Clone_api_Event_api_Event := G_unf c0_slices_Clone_api_Event_api_Event.eq_1
@[simp] def g_slices_Clone_api_Event_api_Event := G_unf c_slices_Clone_api_Event_api_Event.eq_1
theorem w_slices_Clone_api_Event_api_Event : WC T n_slices_Clone_api_Event_api_Event l h q ↔ G T (fin [.t 2] (some []) h.next q) c_slices_Clone_api_Event_api_Event [] (envOf l) h := WC_G T_slices_Clone_api_Event_api_Event
@[simp] def g_wheel_Wheel_find := G_unf c_wheel_Wheel_find.eq_1
theorem w_wheel_Wheel_find : WC T n_wheel_Wheel_find l h q ↔ G T (fin [.t 4] (some []) h.next q) c_wheel_Wheel_find [] (envOf l) h := WC_G T_wheel_Wheel_find
@[simp] def g0_pianolaref9_Wheel_Cancel := G_unf c0_pianolaref9_Wheel_Cancel.eq_1
@[simp] def g1_pianolaref9_Wheel_Cancel := G_unf c1_pianolaref9_Wheel_Cancel.eq_1
@[simp] def g2_pianolaref9_Wheel_Cancel := G_unf c2_pianolaref9_Wheel_Cancel.eq_1
@[simp] def g_pianolaref9_Wheel_Cancel := G_unf c_pianolaref9_Wheel_Cancel.eq_1
theorem w_pianolaref9_Wheel_Cancel : WC T n_pianolaref9_Wheel_Cancel l h q ↔ G T (fin [.t 4] (some []) h.next q) c_pianolaref9_Wheel_Cancel [] (envOf l) h := WC_G T_pianolaref9_Wheel_Cancel
@[simp] def g0_pianolaref9_Wheel_Take := G_unf c0_pianolaref9_Wheel_Take.eq_1
@[simp] def g1_pianolaref9_Wheel_Take := G_unf c1_pianolaref9_Wheel_Take.eq_1
@[simp] def g2_pianolaref9_Wheel_Take := G_unf c2_pianolaref9_Wheel_Take.eq_1
@[simp] def g_pianolaref9_Wheel_Take := G_unf c_pianolaref9_Wheel_Take.eq_1
theorem w_pianolaref9_Wheel_Take : WC T n_pianolaref9_Wheel_Take l h q ↔ G T (fin [.ldn 3 4, .t 5] (some []) h.next q) c_pianolaref9_Wheel_Take [] (envOf l) h := WC_G T_pianolaref9_Wheel_Take
@[simp] def g0_pianolaref9_Wheel_Arm := G_unf c0_pianolaref9_Wheel_Arm.eq_1
@[simp] def g1_pianolaref9_Wheel_Arm := G_unf c1_pianolaref9_Wheel_Arm.eq_1
@[simp] def g2_pianolaref9_Wheel_Arm := G_unf c2_pianolaref9_Wheel_Arm.eq_1
@[simp] def g3_pianolaref9_Wheel_Arm := G_unf c3_pianolaref9_Wheel_Arm.eq_1
@[simp] def g_pianolaref9_Wheel_Arm := G_unf c_pianolaref9_Wheel_Arm.eq_1
theorem w_pianolaref9_Wheel_Arm : WC T n_pianolaref9_Wheel_Arm l h q ↔ G T (fin [.t 6] (some []) h.next q) c_pianolaref9_Wheel_Arm [] (envOf l) h := WC_G T_pianolaref9_Wheel_Arm
@[simp] def g0_wheel_Wheel_At := G_unf c0_wheel_Wheel_At.eq_1
@[simp] def g1_wheel_Wheel_At := G_unf c1_wheel_Wheel_At.eq_1
@[simp] def g_wheel_Wheel_At := G_unf c_wheel_Wheel_At.eq_1
theorem w_wheel_Wheel_At : WC T n_wheel_Wheel_At l h q ↔ G T (fin [.t 4, .t 5] (some []) h.next q) c_wheel_Wheel_At [] (envOf l) h := WC_G T_wheel_Wheel_At
@[simp] def g0_pianolaref9_Wheel_At := G_unf c0_pianolaref9_Wheel_At.eq_1
@[simp] def g1_pianolaref9_Wheel_At := G_unf c1_pianolaref9_Wheel_At.eq_1
@[simp] def g2_pianolaref9_Wheel_At := G_unf c2_pianolaref9_Wheel_At.eq_1
@[simp] def g_pianolaref9_Wheel_At := G_unf c_pianolaref9_Wheel_At.eq_1
theorem w_pianolaref9_Wheel_At : WC T n_pianolaref9_Wheel_At l h q ↔ G T (fin [.t 4, .t 5] (some []) h.next q) c_pianolaref9_Wheel_At [] (envOf l) h := WC_G T_pianolaref9_Wheel_At
@[simp] def g0_pianolabook_Same_api_Event := G_unf c0_pianolabook_Same_api_Event.eq_1
@[simp] def g1_pianolabook_Same_api_Event := G_unf c1_pianolabook_Same_api_Event.eq_1
@[simp] def g2_pianolabook_Same_api_Event := G_unf c2_pianolabook_Same_api_Event.eq_1
@[simp] def g_pianolabook_Same_api_Event := G_unf c_pianolabook_Same_api_Event.eq_1
theorem w_pianolabook_Same_api_Event : WC T n_pianolabook_Same_api_Event l h q ↔ G T (fin [.t 4] (some []) h.next q) c_pianolabook_Same_api_Event [] (envOf l) h := WC_G T_pianolabook_Same_api_Event
@[simp] def g_timer_Timer_arm := G_unf c_timer_Timer_arm.eq_1
theorem w_timer_Timer_arm : WC T n_timer_Timer_arm l h q ↔ G T (fin [] (some []) h.next q) c_timer_Timer_arm [] (envOf l) h := WC_G T_timer_Timer_arm
@[simp] def g0_timer_Timer_Read := G_unf c0_timer_Timer_Read.eq_1
@[simp] def g1_timer_Timer_Read := G_unf c1_timer_Timer_Read.eq_1
@[simp] def g2_timer_Timer_Read := G_unf c2_timer_Timer_Read.eq_1
@[simp] def g_timer_Timer_Read := G_unf c_timer_Timer_Read.eq_1
theorem w_timer_Timer_Read : WC T n_timer_Timer_Read l h q ↔ G T (fin [.t 4, .t 5] (some []) h.next q) c_timer_Timer_Read [] (envOf l) h := WC_G T_timer_Timer_Read
@[simp] def g0_pianolaref15_New := G_unf c0_pianolaref15_New.eq_1
@[simp] def g1_pianolaref15_New := G_unf c1_pianolaref15_New.eq_1
@[simp] def g2_pianolaref15_New := G_unf c2_pianolaref15_New.eq_1
@[simp] def g3_pianolaref15_New := G_unf c3_pianolaref15_New.eq_1
@[simp] def g4_pianolaref15_New := G_unf c4_pianolaref15_New.eq_1
@[simp] def g_pianolaref15_New := G_unf c_pianolaref15_New.eq_1
theorem w_pianolaref15_New : WC T n_pianolaref15_New l h q ↔ G T (fin [.t 6] (some []) h.next q) c_pianolaref15_New [] (envOf l) h := WC_G T_pianolaref15_New
@[simp] def g0_pianolaref15_Bus_Word := G_unf c0_pianolaref15_Bus_Word.eq_1
@[simp] def g1_pianolaref15_Bus_Word := G_unf c1_pianolaref15_Bus_Word.eq_1
@[simp] def g2_pianolaref15_Bus_Word := G_unf c2_pianolaref15_Bus_Word.eq_1
@[simp] def g3_pianolaref15_Bus_Word := G_unf c3_pianolaref15_Bus_Word.eq_1
@[simp] def g4_pianolaref15_Bus_Word := G_unf c4_pianolaref15_Bus_Word.eq_1
@[simp] def g5_pianolaref15_Bus_Word := G_unf c5_pianolaref15_Bus_Word.eq_1
@[simp] def g6_pianolaref15_Bus_Word := G_unf c6_pianolaref15_Bus_Word.eq_1
@[simp] def g7_pianolaref15_Bus_Word := G_unf c7_pianolaref15_Bus_Word.eq_1
@[simp] def g8_pianolaref15_Bus_Word := G_unf c8_pianolaref15_Bus_Word.eq_1
@[simp] def g9_pianolaref15_Bus_Word := G_unf c9_pianolaref15_Bus_Word.eq_1
@[simp] def g10_pianolaref15_Bus_Word := G_unf c10_pianolaref15_Bus_Word.eq_1
@[simp] def g11_pianolaref15_Bus_Word := G_unf c11_pianolaref15_Bus_Word.eq_1
@[simp] def g12_pianolaref15_Bus_Word := G_unf c12_pianolaref15_Bus_Word.eq_1
@[simp] def g_pianolaref15_Bus_Word := G_unf c_pianolaref15_Bus_Word.eq_1
theorem w_pianolaref15_Bus_Word : WC T n_pianolaref15_Bus_Word l h q ↔ G T (fin [.t 8, .t 9] (some []) h.next q) c_pianolaref15_Bus_Word [] (envOf l) h := WC_G T_pianolaref15_Bus_Word
@[simp] def g0_pianolaref15_Bus_B1 := G_unf c0_pianolaref15_Bus_B1.eq_1
@[simp] def g1_pianolaref15_Bus_B1 := G_unf c1_pianolaref15_Bus_B1.eq_1
@[simp] def g2_pianolaref15_Bus_B1 := G_unf c2_pianolaref15_Bus_B1.eq_1
@[simp] def g3_pianolaref15_Bus_B1 := G_unf c3_pianolaref15_Bus_B1.eq_1
@[simp] def g4_pianolaref15_Bus_B1 := G_unf c4_pianolaref15_Bus_B1.eq_1
@[simp] def g5_pianolaref15_Bus_B1 := G_unf c5_pianolaref15_Bus_B1.eq_1
@[simp] def g6_pianolaref15_Bus_B1 := G_unf c6_pianolaref15_Bus_B1.eq_1
@[simp] def g7_pianolaref15_Bus_B1 := G_unf c7_pianolaref15_Bus_B1.eq_1
@[simp] def g8_pianolaref15_Bus_B1 := G_unf c8_pianolaref15_Bus_B1.eq_1
@[simp] def g9_pianolaref15_Bus_B1 := G_unf c9_pianolaref15_Bus_B1.eq_1
@[simp] def g10_pianolaref15_Bus_B1 := G_unf c10_pianolaref15_Bus_B1.eq_1
@[simp] def g11_pianolaref15_Bus_B1 := G_unf c11_pianolaref15_Bus_B1.eq_1
@[simp] def g_pianolaref15_Bus_B1 := G_unf c_pianolaref15_Bus_B1.eq_1
theorem w_pianolaref15_Bus_B1 : WC T n_pianolaref15_Bus_B1 l h q ↔ G T (fin [] (some []) h.next q) c_pianolaref15_Bus_B1 [] (envOf l) h := WC_G T_pianolaref15_Bus_B1
@[simp] def g0_pianolaref15_Bus_Set := G_unf c0_pianolaref15_Bus_Set.eq_1
@[simp] def g1_pianolaref15_Bus_Set := G_unf c1_pianolaref15_Bus_Set.eq_1
@[simp] def g2_pianolaref15_Bus_Set := G_unf c2_pianolaref15_Bus_Set.eq_1
@[simp] def g3_pianolaref15_Bus_Set := G_unf c3_pianolaref15_Bus_Set.eq_1
@[simp] def g4_pianolaref15_Bus_Set := G_unf c4_pianolaref15_Bus_Set.eq_1
@[simp] def g5_pianolaref15_Bus_Set := G_unf c5_pianolaref15_Bus_Set.eq_1
@[simp] def g6_pianolaref15_Bus_Set := G_unf c6_pianolaref15_Bus_Set.eq_1
@[simp] def g_pianolaref15_Bus_Set := G_unf c_pianolaref15_Bus_Set.eq_1
theorem w_pianolaref15_Bus_Set : WC T n_pianolaref15_Bus_Set l h q ↔ G T (fin [.t 10] (some []) h.next q) c_pianolaref15_Bus_Set [] (envOf l) h := WC_G T_pianolaref15_Bus_Set
@[simp] def g0_pianolaref15_Bus_Line := G_unf c0_pianolaref15_Bus_Line.eq_1
@[simp] def g1_pianolaref15_Bus_Line := G_unf c1_pianolaref15_Bus_Line.eq_1
@[simp] def g2_pianolaref15_Bus_Line := G_unf c2_pianolaref15_Bus_Line.eq_1
@[simp] def g3_pianolaref15_Bus_Line := G_unf c3_pianolaref15_Bus_Line.eq_1
@[simp] def g4_pianolaref15_Bus_Line := G_unf c4_pianolaref15_Bus_Line.eq_1
@[simp] def g5_pianolaref15_Bus_Line := G_unf c5_pianolaref15_Bus_Line.eq_1
@[simp] def g_pianolaref15_Bus_Line := G_unf c_pianolaref15_Bus_Line.eq_1
theorem w_pianolaref15_Bus_Line : WC T n_pianolaref15_Bus_Line l h q ↔ G T (fin [.t 4] (some []) h.next q) c_pianolaref15_Bus_Line [] (envOf l) h := WC_G T_pianolaref15_Bus_Line
@[simp] def g0_slices_stableCmpFunc_input_Key := G_unf c0_slices_stableCmpFunc_input_Key.eq_1
@[simp] def g1_slices_stableCmpFunc_input_Key := G_unf c1_slices_stableCmpFunc_input_Key.eq_1
@[simp] def g2_slices_stableCmpFunc_input_Key := G_unf c2_slices_stableCmpFunc_input_Key.eq_1
@[simp] def g3_slices_stableCmpFunc_input_Key := G_unf c3_slices_stableCmpFunc_input_Key.eq_1
@[simp] def g4_slices_stableCmpFunc_input_Key := G_unf c4_slices_stableCmpFunc_input_Key.eq_1
@[simp] def g5_slices_stableCmpFunc_input_Key := G_unf c5_slices_stableCmpFunc_input_Key.eq_1
@[simp] def g6_slices_stableCmpFunc_input_Key := G_unf c6_slices_stableCmpFunc_input_Key.eq_1
@[simp] def g7_slices_stableCmpFunc_input_Key := G_unf c7_slices_stableCmpFunc_input_Key.eq_1
@[simp] def g_slices_stableCmpFunc_input_Key := G_unf c_slices_stableCmpFunc_input_Key.eq_1
theorem w_slices_stableCmpFunc_input_Key : WC T n_slices_stableCmpFunc_input_Key l h q ↔ G T (fin [] (some []) h.next q) c_slices_stableCmpFunc_input_Key [] (envOf l) h := WC_G T_slices_stableCmpFunc_input_Key
@[simp] def g_cmp_isNaN_int64 := G_unf c_cmp_isNaN_int64.eq_1
theorem w_cmp_isNaN_int64 : WC T n_cmp_isNaN_int64 l h q ↔ G T (fin [.t 2] (some []) h.next q) c_cmp_isNaN_int64 [] (envOf l) h := WC_G T_cmp_isNaN_int64
@[simp] def g0_slices_stableCmpFunc_api_Event := G_unf c0_slices_stableCmpFunc_api_Event.eq_1
@[simp] def g1_slices_stableCmpFunc_api_Event := G_unf c1_slices_stableCmpFunc_api_Event.eq_1
@[simp] def g2_slices_stableCmpFunc_api_Event := G_unf c2_slices_stableCmpFunc_api_Event.eq_1
@[simp] def g3_slices_stableCmpFunc_api_Event := G_unf c3_slices_stableCmpFunc_api_Event.eq_1
@[simp] def g4_slices_stableCmpFunc_api_Event := G_unf c4_slices_stableCmpFunc_api_Event.eq_1
@[simp] def g5_slices_stableCmpFunc_api_Event := G_unf c5_slices_stableCmpFunc_api_Event.eq_1
@[simp] def g6_slices_stableCmpFunc_api_Event := G_unf c6_slices_stableCmpFunc_api_Event.eq_1
@[simp] def g7_slices_stableCmpFunc_api_Event := G_unf c7_slices_stableCmpFunc_api_Event.eq_1
@[simp] def g_slices_stableCmpFunc_api_Event := G_unf c_slices_stableCmpFunc_api_Event.eq_1
theorem w_slices_stableCmpFunc_api_Event : WC T n_slices_stableCmpFunc_api_Event l h q ↔ G T (fin [] (some []) h.next q) c_slices_stableCmpFunc_api_Event [] (envOf l) h := WC_G T_slices_stableCmpFunc_api_Event
@[simp] def g0_slices_IndexFunc_api_Event_api_Event := G_unf c0_slices_IndexFunc_api_Event_api_Event.eq_1
@[simp] def g1_slices_IndexFunc_api_Event_api_Event := G_unf c1_slices_IndexFunc_api_Event_api_Event.eq_1
@[simp] def g_slices_IndexFunc_api_Event_api_Event := G_unf c_slices_IndexFunc_api_Event_api_Event.eq_1
theorem w_slices_IndexFunc_api_Event_api_Event : WC T n_slices_IndexFunc_api_Event_api_Event l h q ↔ G T (fin [.t 4] (some []) h.next q) c_slices_IndexFunc_api_Event_api_Event [] (envOf l) h := WC_G T_slices_IndexFunc_api_Event_api_Event
@[simp] def g_wheel_Wheel_find_1 := G_unf c_wheel_Wheel_find_1.eq_1
theorem w_wheel_Wheel_find_1 : WC T n_wheel_Wheel_find_1 l h q ↔ G T (fin [.t 3] (some []) h.next q) c_wheel_Wheel_find_1 [] (envOf l) h := WC_G T_wheel_Wheel_find_1
@[simp] def g0_pianolaref2_New := G_unf c0_pianolaref2_New.eq_1
@[simp] def g_pianolaref2_New := G_unf c_pianolaref2_New.eq_1
theorem w_pianolaref2_New : WC T n_pianolaref2_New l h q ↔ G T (fin [.t 2] (some []) h.next q) c_pianolaref2_New [] (envOf l) h := WC_G T_pianolaref2_New
@[simp] def g_pianolaref15_bit := G_unf c_pianolaref15_bit.eq_1
theorem w_pianolaref15_bit : WC T n_pianolaref15_bit l h q ↔ G T (fin [.t 4] (some []) h.next q) c_pianolaref15_bit [] (envOf l) h := WC_G T_pianolaref15_bit
@[simp] def g0_pianolaref15_Bus_move := G_unf c0_pianolaref15_Bus_move.eq_1
@[simp] def g1_pianolaref15_Bus_move := G_unf c1_pianolaref15_Bus_move.eq_1
@[simp] def g2_pianolaref15_Bus_move := G_unf c2_pianolaref15_Bus_move.eq_1
@[simp] def g3_pianolaref15_Bus_move := G_unf c3_pianolaref15_Bus_move.eq_1
@[simp] def g4_pianolaref15_Bus_move := G_unf c4_pianolaref15_Bus_move.eq_1
@[simp] def g_pianolaref15_Bus_move := G_unf c_pianolaref15_Bus_move.eq_1
theorem w_pianolaref15_Bus_move : WC T n_pianolaref15_Bus_move l h q ↔ G T (fin [] (some []) h.next q) c_pianolaref15_Bus_move [] (envOf l) h := WC_G T_pianolaref15_Bus_move
@[simp] def g0_pianolaref15_Bus_sector := G_unf c0_pianolaref15_Bus_sector.eq_1
@[simp] def g1_pianolaref15_Bus_sector := G_unf c1_pianolaref15_Bus_sector.eq_1
@[simp] def g2_pianolaref15_Bus_sector := G_unf c2_pianolaref15_Bus_sector.eq_1
@[simp] def g3_pianolaref15_Bus_sector := G_unf c3_pianolaref15_Bus_sector.eq_1
@[simp] def g4_pianolaref15_Bus_sector := G_unf c4_pianolaref15_Bus_sector.eq_1
@[simp] def g5_pianolaref15_Bus_sector := G_unf c5_pianolaref15_Bus_sector.eq_1
@[simp] def g6_pianolaref15_Bus_sector := G_unf c6_pianolaref15_Bus_sector.eq_1
@[simp] def g_pianolaref15_Bus_sector := G_unf c_pianolaref15_Bus_sector.eq_1
theorem w_pianolaref15_Bus_sector : WC T n_pianolaref15_Bus_sector l h q ↔ G T (fin [] (some []) h.next q) c_pianolaref15_Bus_sector [] (envOf l) h := WC_G T_pianolaref15_Bus_sector
@[simp] def g0_pianolaref15_Bus_timer := G_unf c0_pianolaref15_Bus_timer.eq_1
@[simp] def g1_pianolaref15_Bus_timer := G_unf c1_pianolaref15_Bus_timer.eq_1
@[simp] def g2_pianolaref15_Bus_timer := G_unf c2_pianolaref15_Bus_timer.eq_1
@[simp] def g3_pianolaref15_Bus_timer := G_unf c3_pianolaref15_Bus_timer.eq_1
@[simp] def g4_pianolaref15_Bus_timer := G_unf c4_pianolaref15_Bus_timer.eq_1
@[simp] def g5_pianolaref15_Bus_timer := G_unf c5_pianolaref15_Bus_timer.eq_1
@[simp] def g_pianolaref15_Bus_timer := G_unf c_pianolaref15_Bus_timer.eq_1
theorem w_pianolaref15_Bus_timer : WC T n_pianolaref15_Bus_timer l h q ↔ G T (fin [.t 10] (some []) h.next q) c_pianolaref15_Bus_timer [] (envOf l) h := WC_G T_pianolaref15_Bus_timer
@[simp] def g0_pianolaref15_Bus_uart := G_unf c0_pianolaref15_Bus_uart.eq_1
@[simp] def g1_pianolaref15_Bus_uart := G_unf c1_pianolaref15_Bus_uart.eq_1
@[simp] def g2_pianolaref15_Bus_uart := G_unf c2_pianolaref15_Bus_uart.eq_1
@[simp] def g3_pianolaref15_Bus_uart := G_unf c3_pianolaref15_Bus_uart.eq_1
@[simp] def g4_pianolaref15_Bus_uart := G_unf c4_pianolaref15_Bus_uart.eq_1
@[simp] def g5_pianolaref15_Bus_uart := G_unf c5_pianolaref15_Bus_uart.eq_1
@[simp] def g_pianolaref15_Bus_uart := G_unf c_pianolaref15_Bus_uart.eq_1
theorem w_pianolaref15_Bus_uart : WC T n_pianolaref15_Bus_uart l h q ↔ G T (fin [.t 8] (some []) h.next q) c_pianolaref15_Bus_uart [] (envOf l) h := WC_G T_pianolaref15_Bus_uart
@[simp] def g0_pianolaref15_Bus_dma := G_unf c0_pianolaref15_Bus_dma.eq_1
@[simp] def g1_pianolaref15_Bus_dma := G_unf c1_pianolaref15_Bus_dma.eq_1
@[simp] def g2_pianolaref15_Bus_dma := G_unf c2_pianolaref15_Bus_dma.eq_1
@[simp] def g3_pianolaref15_Bus_dma := G_unf c3_pianolaref15_Bus_dma.eq_1
@[simp] def g4_pianolaref15_Bus_dma := G_unf c4_pianolaref15_Bus_dma.eq_1
@[simp] def g5_pianolaref15_Bus_dma := G_unf c5_pianolaref15_Bus_dma.eq_1
@[simp] def g6_pianolaref15_Bus_dma := G_unf c6_pianolaref15_Bus_dma.eq_1
@[simp] def g7_pianolaref15_Bus_dma := G_unf c7_pianolaref15_Bus_dma.eq_1
@[simp] def g_pianolaref15_Bus_dma := G_unf c_pianolaref15_Bus_dma.eq_1
theorem w_pianolaref15_Bus_dma : WC T n_pianolaref15_Bus_dma l h q ↔ G T (fin [.t 8] (some []) h.next q) c_pianolaref15_Bus_dma [] (envOf l) h := WC_G T_pianolaref15_Bus_dma
@[simp] def g0_pianolaref15_Bus_disk := G_unf c0_pianolaref15_Bus_disk.eq_1
@[simp] def g1_pianolaref15_Bus_disk := G_unf c1_pianolaref15_Bus_disk.eq_1
@[simp] def g2_pianolaref15_Bus_disk := G_unf c2_pianolaref15_Bus_disk.eq_1
@[simp] def g3_pianolaref15_Bus_disk := G_unf c3_pianolaref15_Bus_disk.eq_1
@[simp] def g4_pianolaref15_Bus_disk := G_unf c4_pianolaref15_Bus_disk.eq_1
@[simp] def g5_pianolaref15_Bus_disk := G_unf c5_pianolaref15_Bus_disk.eq_1
@[simp] def g_pianolaref15_Bus_disk := G_unf c_pianolaref15_Bus_disk.eq_1
theorem w_pianolaref15_Bus_disk : WC T n_pianolaref15_Bus_disk l h q ↔ G T (fin [.t 8] (some []) h.next q) c_pianolaref15_Bus_disk [] (envOf l) h := WC_G T_pianolaref15_Bus_disk
@[simp] def g0_slices_insertionSortCmpFunc_input_Key := G_unf c0_slices_insertionSortCmpFunc_input_Key.eq_1
@[simp] def g1_slices_insertionSortCmpFunc_input_Key := G_unf c1_slices_insertionSortCmpFunc_input_Key.eq_1
@[simp] def g2_slices_insertionSortCmpFunc_input_Key := G_unf c2_slices_insertionSortCmpFunc_input_Key.eq_1
@[simp] def g_slices_insertionSortCmpFunc_input_Key := G_unf c_slices_insertionSortCmpFunc_input_Key.eq_1
theorem w_slices_insertionSortCmpFunc_input_Key : WC T n_slices_insertionSortCmpFunc_input_Key l h q ↔ G T (fin [] (some []) h.next q) c_slices_insertionSortCmpFunc_input_Key [] (envOf l) h := WC_G T_slices_insertionSortCmpFunc_input_Key
@[simp] def g0_slices_symMergeCmpFunc_input_Key := G_unf c0_slices_symMergeCmpFunc_input_Key.eq_1
@[simp] def g1_slices_symMergeCmpFunc_input_Key := G_unf c1_slices_symMergeCmpFunc_input_Key.eq_1
@[simp] def g2_slices_symMergeCmpFunc_input_Key := G_unf c2_slices_symMergeCmpFunc_input_Key.eq_1
@[simp] def g3_slices_symMergeCmpFunc_input_Key := G_unf c3_slices_symMergeCmpFunc_input_Key.eq_1
@[simp] def g4_slices_symMergeCmpFunc_input_Key := G_unf c4_slices_symMergeCmpFunc_input_Key.eq_1
@[simp] def g5_slices_symMergeCmpFunc_input_Key := G_unf c5_slices_symMergeCmpFunc_input_Key.eq_1
@[simp] def g6_slices_symMergeCmpFunc_input_Key := G_unf c6_slices_symMergeCmpFunc_input_Key.eq_1
@[simp] def g7_slices_symMergeCmpFunc_input_Key := G_unf c7_slices_symMergeCmpFunc_input_Key.eq_1
@[simp] def g8_slices_symMergeCmpFunc_input_Key := G_unf c8_slices_symMergeCmpFunc_input_Key.eq_1
@[simp] def g9_slices_symMergeCmpFunc_input_Key := G_unf c9_slices_symMergeCmpFunc_input_Key.eq_1
@[simp] def g10_slices_symMergeCmpFunc_input_Key := G_unf c10_slices_symMergeCmpFunc_input_Key.eq_1
@[simp] def g11_slices_symMergeCmpFunc_input_Key := G_unf c11_slices_symMergeCmpFunc_input_Key.eq_1
@[simp] def g12_slices_symMergeCmpFunc_input_Key := G_unf c12_slices_symMergeCmpFunc_input_Key.eq_1
@[simp] def g13_slices_symMergeCmpFunc_input_Key := G_unf c13_slices_symMergeCmpFunc_input_Key.eq_1
@[simp] def g14_slices_symMergeCmpFunc_input_Key := G_unf c14_slices_symMergeCmpFunc_input_Key.eq_1
@[simp] def g15_slices_symMergeCmpFunc_input_Key := G_unf c15_slices_symMergeCmpFunc_input_Key.eq_1
@[simp] def g16_slices_symMergeCmpFunc_input_Key := G_unf c16_slices_symMergeCmpFunc_input_Key.eq_1
@[simp] def g17_slices_symMergeCmpFunc_input_Key := G_unf c17_slices_symMergeCmpFunc_input_Key.eq_1
@[simp] def g18_slices_symMergeCmpFunc_input_Key := G_unf c18_slices_symMergeCmpFunc_input_Key.eq_1
@[simp] def g19_slices_symMergeCmpFunc_input_Key := G_unf c19_slices_symMergeCmpFunc_input_Key.eq_1
@[simp] def g20_slices_symMergeCmpFunc_input_Key := G_unf c20_slices_symMergeCmpFunc_input_Key.eq_1
@[simp] def g21_slices_symMergeCmpFunc_input_Key := G_unf c21_slices_symMergeCmpFunc_input_Key.eq_1
@[simp] def g_slices_symMergeCmpFunc_input_Key := G_unf c_slices_symMergeCmpFunc_input_Key.eq_1
theorem w_slices_symMergeCmpFunc_input_Key : WC T n_slices_symMergeCmpFunc_input_Key l h q ↔ G T (fin [] (some []) h.next q) c_slices_symMergeCmpFunc_input_Key [] (envOf l) h := WC_G T_slices_symMergeCmpFunc_input_Key
@[simp] def g0_slices_insertionSortCmpFunc_api_Event := G_unf c0_slices_insertionSortCmpFunc_api_Event.eq_1
@[simp] def g1_slices_insertionSortCmpFunc_api_Event := G_unf c1_slices_insertionSortCmpFunc_api_Event.eq_1
@[simp] def g2_slices_insertionSortCmpFunc_api_Event := G_unf c2_slices_insertionSortCmpFunc_api_Event.eq_1
@[simp] def g_slices_insertionSortCmpFunc_api_Event := G_unf c_slices_insertionSortCmpFunc_api_Event.eq_1
theorem w_slices_insertionSortCmpFunc_api_Event : WC T n_slices_insertionSortCmpFunc_api_Event l h q ↔ G T (fin [] (some []) h.next q) c_slices_insertionSortCmpFunc_api_Event [] (envOf l) h := WC_G T_slices_insertionSortCmpFunc_api_Event
@[simp] def g0_slices_symMergeCmpFunc_api_Event := G_unf c0_slices_symMergeCmpFunc_api_Event.eq_1
@[simp] def g1_slices_symMergeCmpFunc_api_Event := G_unf c1_slices_symMergeCmpFunc_api_Event.eq_1
@[simp] def g2_slices_symMergeCmpFunc_api_Event := G_unf c2_slices_symMergeCmpFunc_api_Event.eq_1
@[simp] def g3_slices_symMergeCmpFunc_api_Event := G_unf c3_slices_symMergeCmpFunc_api_Event.eq_1
@[simp] def g4_slices_symMergeCmpFunc_api_Event := G_unf c4_slices_symMergeCmpFunc_api_Event.eq_1
@[simp] def g5_slices_symMergeCmpFunc_api_Event := G_unf c5_slices_symMergeCmpFunc_api_Event.eq_1
@[simp] def g6_slices_symMergeCmpFunc_api_Event := G_unf c6_slices_symMergeCmpFunc_api_Event.eq_1
@[simp] def g7_slices_symMergeCmpFunc_api_Event := G_unf c7_slices_symMergeCmpFunc_api_Event.eq_1
@[simp] def g8_slices_symMergeCmpFunc_api_Event := G_unf c8_slices_symMergeCmpFunc_api_Event.eq_1
@[simp] def g9_slices_symMergeCmpFunc_api_Event := G_unf c9_slices_symMergeCmpFunc_api_Event.eq_1
@[simp] def g10_slices_symMergeCmpFunc_api_Event := G_unf c10_slices_symMergeCmpFunc_api_Event.eq_1
@[simp] def g11_slices_symMergeCmpFunc_api_Event := G_unf c11_slices_symMergeCmpFunc_api_Event.eq_1
@[simp] def g12_slices_symMergeCmpFunc_api_Event := G_unf c12_slices_symMergeCmpFunc_api_Event.eq_1
@[simp] def g13_slices_symMergeCmpFunc_api_Event := G_unf c13_slices_symMergeCmpFunc_api_Event.eq_1
@[simp] def g14_slices_symMergeCmpFunc_api_Event := G_unf c14_slices_symMergeCmpFunc_api_Event.eq_1
@[simp] def g15_slices_symMergeCmpFunc_api_Event := G_unf c15_slices_symMergeCmpFunc_api_Event.eq_1
@[simp] def g16_slices_symMergeCmpFunc_api_Event := G_unf c16_slices_symMergeCmpFunc_api_Event.eq_1
@[simp] def g17_slices_symMergeCmpFunc_api_Event := G_unf c17_slices_symMergeCmpFunc_api_Event.eq_1
@[simp] def g18_slices_symMergeCmpFunc_api_Event := G_unf c18_slices_symMergeCmpFunc_api_Event.eq_1
@[simp] def g19_slices_symMergeCmpFunc_api_Event := G_unf c19_slices_symMergeCmpFunc_api_Event.eq_1
@[simp] def g20_slices_symMergeCmpFunc_api_Event := G_unf c20_slices_symMergeCmpFunc_api_Event.eq_1
@[simp] def g21_slices_symMergeCmpFunc_api_Event := G_unf c21_slices_symMergeCmpFunc_api_Event.eq_1
@[simp] def g_slices_symMergeCmpFunc_api_Event := G_unf c_slices_symMergeCmpFunc_api_Event.eq_1
theorem w_slices_symMergeCmpFunc_api_Event : WC T n_slices_symMergeCmpFunc_api_Event l h q ↔ G T (fin [] (some []) h.next q) c_slices_symMergeCmpFunc_api_Event [] (envOf l) h := WC_G T_slices_symMergeCmpFunc_api_Event
@[simp] def g0_pianolaref2_Ram_In := G_unf c0_pianolaref2_Ram_In.eq_1
@[simp] def g_pianolaref2_Ram_In := G_unf c_pianolaref2_Ram_In.eq_1
theorem w_pianolaref2_Ram_In : WC T n_pianolaref2_Ram_In l h q ↔ G T (fin [.t 6] (some []) h.next q) c_pianolaref2_Ram_In [] (envOf l) h := WC_G T_pianolaref2_Ram_In
@[simp] def g0_pianolaref2_Ram_Bytes := G_unf c0_pianolaref2_Ram_Bytes.eq_1
@[simp] def g1_pianolaref2_Ram_Bytes := G_unf c1_pianolaref2_Ram_Bytes.eq_1
@[simp] def g_pianolaref2_Ram_Bytes := G_unf c_pianolaref2_Ram_Bytes.eq_1
theorem w_pianolaref2_Ram_Bytes : WC T n_pianolaref2_Ram_Bytes l h q ↔ G T (fin [.t 6, .t 7] (some []) h.next q) c_pianolaref2_Ram_Bytes [] (envOf l) h := WC_G T_pianolaref2_Ram_Bytes
@[simp] def g0_pianolaref2_Ram_Put := G_unf c0_pianolaref2_Ram_Put.eq_1
@[simp] def g1_pianolaref2_Ram_Put := G_unf c1_pianolaref2_Ram_Put.eq_1
@[simp] def g_pianolaref2_Ram_Put := G_unf c_pianolaref2_Ram_Put.eq_1
theorem w_pianolaref2_Ram_Put : WC T n_pianolaref2_Ram_Put l h q ↔ G T (fin [.t 6] (some []) h.next q) c_pianolaref2_Ram_Put [] (envOf l) h := WC_G T_pianolaref2_Ram_Put
@[simp] def g0_slices_rotateCmpFunc_input_Key := G_unf c0_slices_rotateCmpFunc_input_Key.eq_1
@[simp] def g1_slices_rotateCmpFunc_input_Key := G_unf c1_slices_rotateCmpFunc_input_Key.eq_1
@[simp] def g2_slices_rotateCmpFunc_input_Key := G_unf c2_slices_rotateCmpFunc_input_Key.eq_1
@[simp] def g3_slices_rotateCmpFunc_input_Key := G_unf c3_slices_rotateCmpFunc_input_Key.eq_1
@[simp] def g_slices_rotateCmpFunc_input_Key := G_unf c_slices_rotateCmpFunc_input_Key.eq_1
theorem w_slices_rotateCmpFunc_input_Key : WC T n_slices_rotateCmpFunc_input_Key l h q ↔ G T (fin [] (some []) h.next q) c_slices_rotateCmpFunc_input_Key [] (envOf l) h := WC_G T_slices_rotateCmpFunc_input_Key
@[simp] def g0_slices_rotateCmpFunc_api_Event := G_unf c0_slices_rotateCmpFunc_api_Event.eq_1
@[simp] def g1_slices_rotateCmpFunc_api_Event := G_unf c1_slices_rotateCmpFunc_api_Event.eq_1
@[simp] def g2_slices_rotateCmpFunc_api_Event := G_unf c2_slices_rotateCmpFunc_api_Event.eq_1
@[simp] def g3_slices_rotateCmpFunc_api_Event := G_unf c3_slices_rotateCmpFunc_api_Event.eq_1
@[simp] def g_slices_rotateCmpFunc_api_Event := G_unf c_slices_rotateCmpFunc_api_Event.eq_1
theorem w_slices_rotateCmpFunc_api_Event : WC T n_slices_rotateCmpFunc_api_Event l h q ↔ G T (fin [] (some []) h.next q) c_slices_rotateCmpFunc_api_Event [] (envOf l) h := WC_G T_slices_rotateCmpFunc_api_Event
@[simp] def g0_pianolaref2_Ram_touch := G_unf c0_pianolaref2_Ram_touch.eq_1
@[simp] def g1_pianolaref2_Ram_touch := G_unf c1_pianolaref2_Ram_touch.eq_1
@[simp] def g2_pianolaref2_Ram_touch := G_unf c2_pianolaref2_Ram_touch.eq_1
@[simp] def g_pianolaref2_Ram_touch := G_unf c_pianolaref2_Ram_touch.eq_1
theorem w_pianolaref2_Ram_touch : WC T n_pianolaref2_Ram_touch l h q ↔ G T (fin [] (some []) h.next q) c_pianolaref2_Ram_touch [] (envOf l) h := WC_G T_pianolaref2_Ram_touch
@[simp] def g0_slices_swapRangeCmpFunc_input_Key := G_unf c0_slices_swapRangeCmpFunc_input_Key.eq_1
@[simp] def g1_slices_swapRangeCmpFunc_input_Key := G_unf c1_slices_swapRangeCmpFunc_input_Key.eq_1
@[simp] def g_slices_swapRangeCmpFunc_input_Key := G_unf c_slices_swapRangeCmpFunc_input_Key.eq_1
theorem w_slices_swapRangeCmpFunc_input_Key : WC T n_slices_swapRangeCmpFunc_input_Key l h q ↔ G T (fin [] (some []) h.next q) c_slices_swapRangeCmpFunc_input_Key [] (envOf l) h := WC_G T_slices_swapRangeCmpFunc_input_Key
@[simp] def g0_slices_swapRangeCmpFunc_api_Event := G_unf c0_slices_swapRangeCmpFunc_api_Event.eq_1
@[simp] def g1_slices_swapRangeCmpFunc_api_Event := G_unf c1_slices_swapRangeCmpFunc_api_Event.eq_1
@[simp] def g_slices_swapRangeCmpFunc_api_Event := G_unf c_slices_swapRangeCmpFunc_api_Event.eq_1
theorem w_slices_swapRangeCmpFunc_api_Event : WC T n_slices_swapRangeCmpFunc_api_Event l h q ↔ G T (fin [] (some []) h.next q) c_slices_swapRangeCmpFunc_api_Event [] (envOf l) h := WC_G T_slices_swapRangeCmpFunc_api_Event
end
theorem tab : TabOK Try.prog (compAny Try.prog) T :=
  tab_ins h_pianolalaw10_LinesNumbers <|
  tab_ins h_pianolalaw10_LinesPlays <|
  tab_ins h_pianolalaw10_LinesMask <|
  tab_ins h_pianolalaw24_InputNumbers <|
  tab_ins h_pianolalaw24_InputPlays <|
  tab_ins h_pianolalaw24_InputParts <|
  tab_ins h_pianolalaw9_WheelOrder <|
  tab_ins h_pianolalaw9_WheelAnew <|
  tab_ins h_pianolalaw9_WheelNumbers <|
  tab_ins h_pianolalaw9_WheelPlays <|
  tab_ins h_pianolalaw11_TimerAgain <|
  tab_ins h_pianolalaw11_TimerNumbers <|
  tab_ins h_pianolalaw10_known <|
  tab_ins h_lines_New <|
  tab_ins h_lines_Lines_Set <|
  tab_ins h_lines_Lines_Write <|
  tab_ins h_lines_Lines_Read <|
  tab_ins h_lines_Lines_Raised <|
  tab_ins h_input_New <|
  tab_ins h_input_Plan_Left <|
  tab_ins h_pianolalaw24_known <|
  tab_ins h_pianolabook_Roomy_input_Key <|
  tab_ins h_pianolalaw24_sorted <|
  tab_ins h_input_Plan_Next <|
  tab_ins h_input_Plan_Take <|
  tab_ins h_pianolabook_Intact_input_Key <|
  tab_ins h_wheel_New <|
  tab_ins h_wheel_Wheel_Arm <|
  tab_ins h_wheel_Wheel_Take <|
  tab_ins h_wheel_Wheel_All <|
  tab_ins h_pianolalaw9_known <|
  tab_ins h_wheel_Wheel_Cancel <|
  tab_ins h_pianolalaw9_play <|
  tab_ins h_timer_New <|
  tab_ins h_timer_Timer_Write <|
  tab_ins h_pianolabook_Within <|
  tab_ins h_timer_Timer_Fire <|
  tab_ins h_timer_Timer_Line <|
  tab_ins h_pianolalaw11_known <|
  tab_ins h_pianolalaw11_play <|
  tab_ins h_slices_Clone_input_Key_input_Key <|
  tab_ins h_slices_SortStableFunc_input_Key_input_Key <|
  tab_ins h_input_New_1 <|
  tab_ins h_cmp_Compare_int64 <|
  tab_ins h_pianolabook_Same_input_Key <|
  tab_ins h_slices_SortStableFunc_api_Event_api_Event <|
  tab_ins h_wheel_Wheel_Arm_1 <|
  tab_ins h_wheel_Wheel_Next <|
  tab_ins h_slices_Delete_api_Event_api_Event <|
  tab_ins h_slices_Clone_api_Event_api_Event <|
  tab_ins h_wheel_Wheel_find <|
  tab_ins h_pianolaref9_Wheel_Cancel <|
  tab_ins h_pianolaref9_Wheel_Take <|
  tab_ins h_pianolaref9_Wheel_Arm <|
  tab_ins h_wheel_Wheel_At <|
  tab_ins h_pianolaref9_Wheel_At <|
  tab_ins h_pianolabook_Same_api_Event <|
  tab_ins h_timer_Timer_arm <|
  tab_ins h_timer_Timer_Read <|
  tab_ins h_pianolaref15_New <|
  tab_ins h_pianolaref15_Bus_Word <|
  tab_ins h_pianolaref15_Bus_B1 <|
  tab_ins h_pianolaref15_Bus_Set <|
  tab_ins h_pianolaref15_Bus_Line <|
  tab_ins h_slices_stableCmpFunc_input_Key <|
  tab_ins h_cmp_isNaN_int64 <|
  tab_ins h_slices_stableCmpFunc_api_Event <|
  tab_ins h_slices_IndexFunc_api_Event_api_Event <|
  tab_ins h_wheel_Wheel_find_1 <|
  tab_ins h_pianolaref2_New <|
  tab_ins h_pianolaref15_bit <|
  tab_ins h_pianolaref15_Bus_move <|
  tab_ins h_pianolaref15_Bus_sector <|
  tab_ins h_pianolaref15_Bus_timer <|
  tab_ins h_pianolaref15_Bus_uart <|
  tab_ins h_pianolaref15_Bus_dma <|
  tab_ins h_pianolaref15_Bus_disk <|
  tab_ins h_slices_insertionSortCmpFunc_input_Key <|
  tab_ins h_slices_symMergeCmpFunc_input_Key <|
  tab_ins h_slices_insertionSortCmpFunc_api_Event <|
  tab_ins h_slices_symMergeCmpFunc_api_Event <|
  tab_ins h_pianolaref2_Ram_In <|
  tab_ins h_pianolaref2_Ram_Bytes <|
  tab_ins h_pianolaref2_Ram_Put <|
  tab_ins h_slices_rotateCmpFunc_input_Key <|
  tab_ins h_slices_rotateCmpFunc_api_Event <|
  tab_ins h_pianolaref2_Ram_touch <|
  tab_ins h_slices_swapRangeCmpFunc_input_Key <|
  tab_ins h_slices_swapRangeCmpFunc_api_Event <|
  tab_none
end Go.Proofs.Ytppgoobhlcdbbaa.Cd
