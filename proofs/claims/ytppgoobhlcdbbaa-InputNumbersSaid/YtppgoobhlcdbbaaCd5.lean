/- The code of the functions that are reached, as the interpreter reads it. -/
import Derived.Test.YtppgoobhlcdbbaaCd4
set_option maxRecDepth 100000
set_option linter.defProp false
namespace Go.Proofs.Ytppgoobhlcdbbaa.Cd
open Go Go.Dx
/- slices.swapRangeCmpFunc[pianola/api.Event] -/
def c0_slices_swapRangeCmpFunc_api_Event : C :=
 .seq (.block 1
  (.any 0 [.op 8 ⟨some 24, none, .mov (.t 0)⟩,
  .op 9 ⟨some 25, none, .mov (.t 2)⟩,
  .op 10 ⟨some 26, none, .mov (.t 10)⟩,
  .op 11 ⟨some 27, none, .bin .add (.t 25) (.t 26)⟩,
  .op 12 ⟨some 28, none, .ia 3 (.t 24) (.t 27)⟩,
  .op 13 ⟨some 29, none, .ldn 3 (.t 28)⟩,
  .op 14 ⟨some 30, none, .mov (.t 0)⟩,
  .op 15 ⟨some 31, none, .mov (.t 1)⟩,
  .op 16 ⟨some 32, none, .mov (.t 10)⟩,
  .op 17 ⟨some 33, none, .bin .add (.t 31) (.t 32)⟩,
  .op 18 ⟨some 34, none, .ia 3 (.t 30) (.t 33)⟩,
  .op 19 ⟨some 35, none, .ldn 3 (.t 34)⟩,
  .op 0 ⟨some 16, none, .mov (.t 0)⟩,
  .op 1 ⟨some 17, none, .mov (.t 1)⟩,
  .op 2 ⟨some 18, none, .mov (.t 10)⟩,
  .op 3 ⟨some 19, none, .bin .add (.t 17) (.t 18)⟩,
  .op 20 ⟨some 36, none, .ia 3 (.t 16) (.t 19)⟩,
  .op 21 ⟨none, none, .stn 3 (.t 36) (.t 29)⟩,
  .op 4 ⟨some 20, none, .mov (.t 0)⟩,
  .op 5 ⟨some 21, none, .mov (.t 2)⟩,
  .op 6 ⟨some 22, none, .mov (.t 10)⟩,
  .op 7 ⟨some 23, none, .bin .add (.t 21) (.t 22)⟩,
  .op 22 ⟨some 37, none, .ia 3 (.t 20) (.t 23)⟩,
  .op 23 ⟨none, none, .stn 3 (.t 37) (.t 35)⟩]))
  (.ops [⟨some 14, none, .mov (.t 10)⟩,
  ⟨some 15, none, .bin .add (.t 14) (.c (.int .i64 1))⟩,
  ⟨some 10, none, .mov (.t 15)⟩])
def c1_slices_swapRangeCmpFunc_api_Event : C :=
 .seq (.seq (.ops [⟨some 11, none, .mov (.t 10)⟩,
  ⟨some 12, none, .mov (.t 3)⟩,
  ⟨some 13, none, .bin .lss (.t 11) (.t 12)⟩])
  (.cond (.t 13)
  (.skip)
  (.exit 0)))
  (c0_slices_swapRangeCmpFunc_api_Event)
def c_slices_swapRangeCmpFunc_api_Event : C :=
 .seq (.ops [⟨some 10, none, .mov (.c (.int .i64 0))⟩])
  (.block 0
  (.loop c1_slices_swapRangeCmpFunc_api_Event))
def f_slices_swapRangeCmpFunc_api_Event : F := ⟨c_slices_swapRangeCmpFunc_api_Event, [], some []⟩
theorem h_slices_swapRangeCmpFunc_api_Event : compF Try.prog (compAny Try.prog) n_slices_swapRangeCmpFunc_api_Event = some (f_slices_swapRangeCmpFunc_api_Event.body, f_slices_swapRangeCmpFunc_api_Event.res) := by kernel_rfl
end Go.Proofs.Ytppgoobhlcdbbaa.Cd
