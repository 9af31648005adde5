/- The code of the functions that are reached, as the interpreter reads it. -/
import Derived.Test.YtppgoobhlcdbbaaProg
import Derived.KernelRfl
import Derived.Test.YtppgoobhlcdbbaaDx17
set_option maxRecDepth 100000
set_option linter.defProp false
namespace Go.Proofs.Ytppgoobhlcdbbaa.Cd
open Go Go.Dx
def n_pianolalaw10_LinesNumbers : Nat := 3
def n_pianolalaw10_LinesPlays : Nat := 4
def n_pianolalaw10_LinesMask : Nat := 5
def n_pianolalaw24_InputNumbers : Nat := 6
def n_pianolalaw24_InputPlays : Nat := 7
def n_pianolalaw24_InputParts : Nat := 8
def n_pianolalaw9_WheelOrder : Nat := 9
def n_pianolalaw9_WheelAnew : Nat := 10
def n_pianolalaw9_WheelNumbers : Nat := 11
def n_pianolalaw9_WheelPlays : Nat := 12
def n_pianolalaw11_TimerAgain : Nat := 13
def n_pianolalaw11_TimerNumbers : Nat := 14
def n_pianolalaw10_known : Nat := 15
def n_lines_New : Nat := 16
def n_lines_Lines_Set : Nat := 17
def n_lines_Lines_Write : Nat := 18
def n_lines_Lines_Read : Nat := 19
def n_lines_Lines_Raised : Nat := 20
def n_input_New : Nat := 21
def n_input_Plan_Left : Nat := 22
def n_pianolalaw24_known : Nat := 23
def n_pianolabook_Roomy_input_Key : Nat := 24
def n_pianolalaw24_sorted : Nat := 25
def n_input_Plan_Next : Nat := 26
def n_input_Plan_Take : Nat := 27
def n_pianolabook_Intact_input_Key : Nat := 28
def n_wheel_New : Nat := 29
def n_wheel_Wheel_Arm : Nat := 30
def n_wheel_Wheel_Take : Nat := 31
def n_wheel_Wheel_All : Nat := 32
def n_pianolalaw9_known : Nat := 33
def n_wheel_Wheel_Cancel : Nat := 34
def n_pianolalaw9_play : Nat := 35
def n_timer_New : Nat := 36
def n_timer_Timer_Write : Nat := 37
def n_pianolabook_Within : Nat := 38
def n_timer_Timer_Fire : Nat := 39
def n_timer_Timer_Line : Nat := 40
def n_pianolalaw11_known : Nat := 41
def n_pianolalaw11_play : Nat := 42
def n_slices_Clone_input_Key_input_Key : Nat := 43
def n_slices_SortStableFunc_input_Key_input_Key : Nat := 44
def n_input_New_1 : Nat := 45
def n_cmp_Compare_int64 : Nat := 46
def n_pianolabook_Same_input_Key : Nat := 47
def n_slices_SortStableFunc_api_Event_api_Event : Nat := 48
def n_wheel_Wheel_Arm_1 : Nat := 49
def n_wheel_Wheel_Next : Nat := 50
def n_slices_Delete_api_Event_api_Event : Nat := 51
def n_slices_Clone_api_Event_api_Event : Nat := 52
def n_wheel_Wheel_find : Nat := 53
def n_pianolaref9_Wheel_Cancel : Nat := 54
def n_pianolaref9_Wheel_Take : Nat := 55
def n_pianolaref9_Wheel_Arm : Nat := 56
def n_wheel_Wheel_At : Nat := 57
def n_pianolaref9_Wheel_At : Nat := 58
def n_pianolabook_Same_api_Event : Nat := 59
def n_timer_Timer_arm : Nat := 60
def n_timer_Timer_Read : Nat := 61
def n_pianolaref15_New : Nat := 62
def n_pianolaref15_Bus_Word : Nat := 63
def n_pianolaref15_Bus_B1 : Nat := 64
def n_pianolaref15_Bus_Set : Nat := 65
def n_pianolaref15_Bus_Line : Nat := 66
def n_slices_stableCmpFunc_input_Key : Nat := 67
def n_cmp_isNaN_int64 : Nat := 68
def n_slices_stableCmpFunc_api_Event : Nat := 69
def n_slices_IndexFunc_api_Event_api_Event : Nat := 70
def n_wheel_Wheel_find_1 : Nat := 71
def n_pianolaref2_New : Nat := 72
def n_pianolaref15_bit : Nat := 73
def n_pianolaref15_Bus_move : Nat := 74
def n_pianolaref15_Bus_sector : Nat := 75
def n_pianolaref15_Bus_timer : Nat := 76
def n_pianolaref15_Bus_uart : Nat := 77
def n_pianolaref15_Bus_dma : Nat := 78
def n_pianolaref15_Bus_disk : Nat := 79
def n_slices_insertionSortCmpFunc_input_Key : Nat := 80
def n_slices_symMergeCmpFunc_input_Key : Nat := 81
def n_slices_insertionSortCmpFunc_api_Event : Nat := 82
def n_slices_symMergeCmpFunc_api_Event : Nat := 83
def n_pianolaref2_Ram_In : Nat := 84
def n_pianolaref2_Ram_Bytes : Nat := 85
def n_pianolaref2_Ram_Put : Nat := 86
def n_slices_rotateCmpFunc_input_Key : Nat := 87
def n_slices_rotateCmpFunc_api_Event : Nat := 88
def n_pianolaref2_Ram_touch : Nat := 89
def n_slices_swapRangeCmpFunc_input_Key : Nat := 90
def n_slices_swapRangeCmpFunc_api_Event : Nat := 91
end Go.Proofs.Ytppgoobhlcdbbaa.Cd
