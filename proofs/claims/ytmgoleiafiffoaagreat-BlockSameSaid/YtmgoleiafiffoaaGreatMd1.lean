/- Texts of one kind, one behind the other. -/
import Derived.Test.YtmgoleiafiffoaaGreatMd0
import Derived.Test.YtmgoleiafiffoaaGreatMc0
set_option maxRecDepth 100000
set_option linter.defProp false
namespace Go.Proofs.YtmgoleiafiffoaaGreat.Cd
open Go Go.Dx
def c0_slices_insertionSortOrdered_int : C :=
 .seq (.block 3
  (.any 0 [.op 5 ⟨some 38, none, .mov (.t 0)⟩,
  .op 6 ⟨some 39, none, .mov (.t 7)⟩,
  .op 7 ⟨some 40, none, .bin .sub (.t 39) (.c (.int .i64 1))⟩,
  .op 8 ⟨some 41, none, .ia 1 (.t 38) (.t 40)⟩,
  .op 9 ⟨some 42, none, .ld (.t 41)⟩,
  .op 10 ⟨some 43, none, .mov (.t 0)⟩,
  .op 11 ⟨some 44, none, .mov (.t 7)⟩,
  .op 12 ⟨some 45, none, .ia 1 (.t 43) (.t 44)⟩,
  .op 13 ⟨some 46, none, .ld (.t 45)⟩,
  .op 0 ⟨some 33, none, .mov (.t 0)⟩,
  .op 1 ⟨some 34, none, .mov (.t 7)⟩,
  .op 14 ⟨some 47, none, .ia 1 (.t 33) (.t 34)⟩,
  .op 15 ⟨none, none, .st (.t 47) (.t 42)⟩,
  .op 2 ⟨some 35, none, .mov (.t 0)⟩,
  .op 3 ⟨some 36, none, .mov (.t 7)⟩,
  .op 4 ⟨some 37, none, .bin .sub (.t 36) (.c (.int .i64 1))⟩,
  .op 16 ⟨some 48, none, .ia 1 (.t 35) (.t 37)⟩,
  .op 17 ⟨none, none, .st (.t 48) (.t 46)⟩]))
  (.ops [⟨some 31, none, .mov (.t 7)⟩,
  ⟨some 32, none, .bin .sub (.t 31) (.c (.int .i64 1))⟩,
  ⟨some 7, none, .mov (.t 32)⟩])
def c1_slices_insertionSortOrdered_int : C :=
 .seq (.seq (.any 0 [.op 0 ⟨some 16, none, .mov (.t 7)⟩,
  .op 1 ⟨some 17, none, .mov (.t 1)⟩,
  .op 2 ⟨some 18, none, .bin .gtr (.t 16) (.t 17)⟩,
  .op 3 ⟨some 19, none, .mov (.t 18)⟩,
  .op 4 ⟨some 20, some (19, true), .mov (.t 0)⟩,
  .op 5 ⟨some 21, some (19, true), .mov (.t 7)⟩,
  .op 6 ⟨some 22, some (19, true), .ia 1 (.t 20) (.t 21)⟩,
  .op 7 ⟨some 23, some (19, true), .ld (.t 22)⟩,
  .op 8 ⟨some 24, some (19, true), .mov (.t 0)⟩,
  .op 9 ⟨some 25, some (19, true), .mov (.t 7)⟩,
  .op 10 ⟨some 26, some (19, true), .bin .sub (.t 25) (.c (.int .i64 1))⟩,
  .op 11 ⟨some 27, some (19, true), .ia 1 (.t 24) (.t 26)⟩,
  .op 12 ⟨some 28, some (19, true), .ld (.t 27)⟩,
  .op 13 ⟨some 29, some (19, true), .call n_cmp_Less_int [(.t 23), (.t 28)]⟩,
  .op 14 ⟨some 30, none, .pick (.t 19) (.t 29) (.c (.bool false))⟩])
  (.cond (.t 30)
  (.skip)
  (.exit 2)))
  (c0_slices_insertionSortOrdered_int)
def c2_slices_insertionSortOrdered_int : C :=
 .seq (.seq (.ops [⟨some 10, none, .mov (.t 6)⟩,
  ⟨some 11, none, .mov (.t 2)⟩,
  ⟨some 12, none, .bin .lss (.t 10) (.t 11)⟩])
  (.cond (.t 12)
  (.skip)
  (.exit 0)))
  (.seq (.block 1
  (.seq (.ops [⟨some 15, none, .mov (.t 6)⟩,
  ⟨some 7, none, .mov (.t 15)⟩])
  (.block 2
  (.loop c1_slices_insertionSortOrdered_int))))
  (.ops [⟨some 13, none, .mov (.t 6)⟩,
  ⟨some 14, none, .bin .add (.t 13) (.c (.int .i64 1))⟩,
  ⟨some 6, none, .mov (.t 14)⟩]))
def c_slices_insertionSortOrdered_int : C :=
 .seq (.ops [⟨some 8, none, .mov (.t 1)⟩,
  ⟨some 9, none, .bin .add (.t 8) (.c (.int .i64 1))⟩,
  ⟨some 6, none, .mov (.t 9)⟩])
  (.block 0
  (.loop c2_slices_insertionSortOrdered_int))
def f_slices_insertionSortOrdered_int : F := ⟨c_slices_insertionSortOrdered_int, [], some []⟩
theorem h_slices_insertionSortOrdered_int : compF Tryz.prog (compAny Tryz.prog) n_slices_insertionSortOrdered_int = some (f_slices_insertionSortOrdered_int.body, f_slices_insertionSortOrdered_int.res) := by kernel_rfl
def c0_slices_heapSortOrdered_int : C :=
 .seq (.block 1
  (.ops [⟨some 22, none, .mov (.t 0)⟩,
  ⟨some 23, none, .mov (.t 9)⟩,
  ⟨some 24, none, .mov (.t 8)⟩,
  ⟨some 25, none, .mov (.t 6)⟩,
  ⟨some 26, none, .call n_slices_siftDownOrdered_int [(.t 22), (.t 23), (.t 24), (.t 25)]⟩]))
  (.ops [⟨some 20, none, .mov (.t 9)⟩,
  ⟨some 21, none, .bin .sub (.t 20) (.c (.int .i64 1))⟩,
  ⟨some 9, none, .mov (.t 21)⟩])
def c1_slices_heapSortOrdered_int : C :=
 .seq (.seq (.ops [⟨some 18, none, .mov (.t 9)⟩,
  ⟨some 19, none, .bin .geq (.t 18) (.c (.int .i64 0))⟩])
  (.cond (.t 19)
  (.skip)
  (.exit 0)))
  (c0_slices_heapSortOrdered_int)
def c2_slices_heapSortOrdered_int : C :=
 .seq (.block 3
  (.seq (.any 0 [.op 6 ⟨some 39, none, .mov (.t 0)⟩,
  .op 7 ⟨some 40, none, .mov (.t 6)⟩,
  .op 8 ⟨some 41, none, .mov (.t 10)⟩,
  .op 9 ⟨some 42, none, .bin .add (.t 40) (.t 41)⟩,
  .op 10 ⟨some 43, none, .ia 1 (.t 39) (.t 42)⟩,
  .op 11 ⟨some 44, none, .ld (.t 43)⟩,
  .op 12 ⟨some 45, none, .mov (.t 0)⟩,
  .op 13 ⟨some 46, none, .mov (.t 6)⟩,
  .op 14 ⟨some 47, none, .ia 1 (.t 45) (.t 46)⟩,
  .op 15 ⟨some 48, none, .ld (.t 47)⟩,
  .op 0 ⟨some 33, none, .mov (.t 0)⟩,
  .op 1 ⟨some 34, none, .mov (.t 6)⟩,
  .op 16 ⟨some 49, none, .ia 1 (.t 33) (.t 34)⟩,
  .op 17 ⟨none, none, .st (.t 49) (.t 44)⟩,
  .op 2 ⟨some 35, none, .mov (.t 0)⟩,
  .op 3 ⟨some 36, none, .mov (.t 6)⟩,
  .op 4 ⟨some 37, none, .mov (.t 10)⟩,
  .op 5 ⟨some 38, none, .bin .add (.t 36) (.t 37)⟩,
  .op 18 ⟨some 50, none, .ia 1 (.t 35) (.t 38)⟩,
  .op 19 ⟨none, none, .st (.t 50) (.t 48)⟩])
  (.ops [⟨some 51, none, .mov (.t 0)⟩,
  ⟨some 52, none, .mov (.t 7)⟩,
  ⟨some 53, none, .mov (.t 10)⟩,
  ⟨some 54, none, .mov (.t 6)⟩,
  ⟨some 55, none, .call n_slices_siftDownOrdered_int [(.t 51), (.t 52), (.t 53), (.t 54)]⟩])))
  (.ops [⟨some 31, none, .mov (.t 10)⟩,
  ⟨some 32, none, .bin .sub (.t 31) (.c (.int .i64 1))⟩,
  ⟨some 10, none, .mov (.t 32)⟩])
def c3_slices_heapSortOrdered_int : C :=
 .seq (.seq (.ops [⟨some 29, none, .mov (.t 10)⟩,
  ⟨some 30, none, .bin .geq (.t 29) (.c (.int .i64 0))⟩])
  (.cond (.t 30)
  (.skip)
  (.exit 2)))
  (c2_slices_heapSortOrdered_int)
def c4_slices_heapSortOrdered_int : C :=
 .seq (.seq (.ops [⟨some 15, none, .mov (.t 8)⟩,
  ⟨some 16, none, .bin .sub (.t 15) (.c (.int .i64 1))⟩,
  ⟨some 17, none, .bin .quo (.t 16) (.c (.int .i64 2))⟩,
  ⟨some 9, none, .mov (.t 17)⟩])
  (.block 0
  (.loop c1_slices_heapSortOrdered_int)))
  (.seq (.ops [⟨some 27, none, .mov (.t 8)⟩,
  ⟨some 28, none, .bin .sub (.t 27) (.c (.int .i64 1))⟩,
  ⟨some 10, none, .mov (.t 28)⟩])
  (.block 2
  (.loop c3_slices_heapSortOrdered_int)))
def c_slices_heapSortOrdered_int : C :=
 .seq (.ops [⟨some 11, none, .mov (.t 1)⟩,
  ⟨some 6, none, .mov (.t 11)⟩])
  (.seq (.ops [⟨some 7, none, .mov (.c (.int .i64 0))⟩])
  (.seq (.ops [⟨some 12, none, .mov (.t 2)⟩,
  ⟨some 13, none, .mov (.t 1)⟩,
  ⟨some 14, none, .bin .sub (.t 12) (.t 13)⟩,
  ⟨some 8, none, .mov (.t 14)⟩])
  (c4_slices_heapSortOrdered_int)))
def f_slices_heapSortOrdered_int : F := ⟨c_slices_heapSortOrdered_int, [], some []⟩
theorem h_slices_heapSortOrdered_int : compF Tryz.prog (compAny Tryz.prog) n_slices_heapSortOrdered_int = some (f_slices_heapSortOrdered_int.body, f_slices_heapSortOrdered_int.res) := by kernel_rfl
def c0_slices_breakPatternsOrdered_int : C :=
 .any 0 [.op 6 ⟨some 53, none, .mov (.t 0)⟩,
  .op 7 ⟨some 54, none, .mov (.t 1)⟩,
  .op 8 ⟨some 55, none, .mov (.t 10)⟩,
  .op 9 ⟨some 56, none, .bin .add (.t 54) (.t 55)⟩,
  .op 10 ⟨some 57, none, .ia 1 (.t 53) (.t 56)⟩,
  .op 11 ⟨some 58, none, .ld (.t 57)⟩,
  .op 12 ⟨some 59, none, .mov (.t 0)⟩,
  .op 13 ⟨some 60, none, .mov (.t 9)⟩,
  .op 14 ⟨some 61, none, .ia 1 (.t 59) (.t 60)⟩,
  .op 15 ⟨some 62, none, .ld (.t 61)⟩,
  .op 0 ⟨some 47, none, .mov (.t 0)⟩,
  .op 1 ⟨some 48, none, .mov (.t 9)⟩,
  .op 16 ⟨some 63, none, .ia 1 (.t 47) (.t 48)⟩,
  .op 17 ⟨none, none, .st (.t 63) (.t 58)⟩,
  .op 2 ⟨some 49, none, .mov (.t 0)⟩,
  .op 3 ⟨some 50, none, .mov (.t 1)⟩,
  .op 4 ⟨some 51, none, .mov (.t 10)⟩,
  .op 5 ⟨some 52, none, .bin .add (.t 50) (.t 51)⟩,
  .op 18 ⟨some 64, none, .ia 1 (.t 49) (.t 52)⟩,
  .op 19 ⟨none, none, .st (.t 64) (.t 62)⟩]
def c1_slices_breakPatternsOrdered_int : C :=
 .seq (.seq (.ops [⟨some 41, none, .mov (.t 10)⟩,
  ⟨some 42, none, .mov (.t 6)⟩,
  ⟨some 43, none, .bin .geq (.t 41) (.t 42)⟩])
  (.cond (.t 43)
  (.ops [⟨some 44, none, .mov (.t 10)⟩,
  ⟨some 45, none, .mov (.t 6)⟩,
  ⟨some 46, none, .bin .sub (.t 44) (.t 45)⟩,
  ⟨some 10, none, .mov (.t 46)⟩])
  (.skip)))
  (c0_slices_breakPatternsOrdered_int)
def c2_slices_breakPatternsOrdered_int : C :=
 .seq (.block 1
  (.seq (.ops [⟨some 36, none, .call n_slices_xorshift_Next [(.t 7)]⟩,
  ⟨some 37, none, .mov (.t 8)⟩,
  ⟨some 38, none, .bin .sub (.t 37) (.c (.int .u64 1))⟩,
  ⟨some 39, none, .bin .and (.t 36) (.t 38)⟩,
  ⟨some 40, none, .conv .i64 (.t 39)⟩,
  ⟨some 10, none, .mov (.t 40)⟩])
  (c1_slices_breakPatternsOrdered_int)))
  (.ops [⟨some 34, none, .mov (.t 9)⟩,
  ⟨some 35, none, .bin .add (.t 34) (.c (.int .i64 1))⟩,
  ⟨some 9, none, .mov (.t 35)⟩])
def c3_slices_breakPatternsOrdered_int : C :=
 .seq (.seq (.ops [⟨some 26, none, .mov (.t 9)⟩,
  ⟨some 27, none, .mov (.t 1)⟩,
  ⟨some 28, none, .mov (.t 6)⟩,
  ⟨some 29, none, .bin .quo (.t 28) (.c (.int .i64 4))⟩,
  ⟨some 30, none, .bin .mul (.t 29) (.c (.int .i64 2))⟩,
  ⟨some 31, none, .bin .add (.t 27) (.t 30)⟩,
  ⟨some 32, none, .bin .add (.t 31) (.c (.int .i64 1))⟩,
  ⟨some 33, none, .bin .leq (.t 26) (.t 32)⟩])
  (.cond (.t 33)
  (.skip)
  (.exit 0)))
  (c2_slices_breakPatternsOrdered_int)
def c4_slices_breakPatternsOrdered_int : C :=
 .seq (.ops [⟨some 20, none, .mov (.t 1)⟩,
  ⟨some 21, none, .mov (.t 6)⟩,
  ⟨some 22, none, .bin .quo (.t 21) (.c (.int .i64 4))⟩,
  ⟨some 23, none, .bin .mul (.t 22) (.c (.int .i64 2))⟩,
  ⟨some 24, none, .bin .add (.t 20) (.t 23)⟩,
  ⟨some 25, none, .bin .sub (.t 24) (.c (.int .i64 1))⟩,
  ⟨some 9, none, .mov (.t 25)⟩])
  (.block 0
  (.loop c3_slices_breakPatternsOrdered_int))
def c5_slices_breakPatternsOrdered_int : C :=
 .cond (.t 15)
  (.seq (.ops [⟨some 16, none, .mov (.t 6)⟩,
  ⟨some 17, none, .conv .u64 (.t 16)⟩,
  ⟨some 7, none, .new [(.int .u64 0)]⟩,
  ⟨none, none, .st (.t 7) (.t 17)⟩])
  (.seq (.ops [⟨some 18, none, .mov (.t 6)⟩,
  ⟨some 19, none, .call n_slices_nextPowerOfTwo [(.t 18)]⟩,
  ⟨some 8, none, .mov (.t 19)⟩])
  (c4_slices_breakPatternsOrdered_int)))
  (.skip)
def c_slices_breakPatternsOrdered_int : C :=
 .seq (.ops [⟨some 11, none, .mov (.t 2)⟩,
  ⟨some 12, none, .mov (.t 1)⟩,
  ⟨some 13, none, .bin .sub (.t 11) (.t 12)⟩,
  ⟨some 6, none, .mov (.t 13)⟩])
  (.seq (.ops [⟨some 14, none, .mov (.t 6)⟩,
  ⟨some 15, none, .bin .geq (.t 14) (.c (.int .i64 8))⟩])
  (c5_slices_breakPatternsOrdered_int))
def f_slices_breakPatternsOrdered_int : F := ⟨c_slices_breakPatternsOrdered_int, [], some []⟩
theorem h_slices_breakPatternsOrdered_int : compF Tryz.prog (compAny Tryz.prog) n_slices_breakPatternsOrdered_int = some (f_slices_breakPatternsOrdered_int.body, f_slices_breakPatternsOrdered_int.res) := by kernel_rfl
def c0_slices_choosePivotOrdered_int : C :=
 .seq (.ops [⟨some 38, none, .mov (.t 0)⟩,
  ⟨some 39, none, .mov (.t 11)⟩,
  ⟨some 40, none, .call n_slices_medianAdjacentOrdered_int [(.t 38), (.t 39), (.t 9)]⟩,
  ⟨some 11, none, .mov (.t 40)⟩])
  (.ops [⟨some 41, none, .mov (.t 0)⟩,
  ⟨some 42, none, .mov (.t 12)⟩,
  ⟨some 43, none, .call n_slices_medianAdjacentOrdered_int [(.t 41), (.t 42), (.t 9)]⟩,
  ⟨some 12, none, .mov (.t 43)⟩])
def c1_slices_choosePivotOrdered_int : C :=
 .seq (.seq (.ops [⟨some 33, none, .mov (.t 8)⟩,
  ⟨some 34, none, .bin .geq (.t 33) (.c (.int .i64 50))⟩])
  (.cond (.t 34)
  (.seq (.ops [⟨some 35, none, .mov (.t 0)⟩,
  ⟨some 36, none, .mov (.t 10)⟩,
  ⟨some 37, none, .call n_slices_medianAdjacentOrdered_int [(.t 35), (.t 36), (.t 9)]⟩,
  ⟨some 10, none, .mov (.t 37)⟩])
  (c0_slices_choosePivotOrdered_int))
  (.skip)))
  (.ops [⟨some 44, none, .mov (.t 0)⟩,
  ⟨some 45, none, .mov (.t 10)⟩,
  ⟨some 46, none, .mov (.t 11)⟩,
  ⟨some 47, none, .mov (.t 12)⟩,
  ⟨some 48, none, .call n_slices_medianOrdered_int [(.t 44), (.t 45), (.t 46), (.t 47), (.t 9)]⟩,
  ⟨some 11, none, .mov (.t 48)⟩])
def c2_slices_choosePivotOrdered_int : C :=
 .seq (.ops [⟨some 55, none, .bin .eql (.t 49) (.c (.int .i64 12))⟩,
  ⟨some 54, none, .mov (.t 55)⟩])
  (.cond (.t 54)
  (.seq (.ops [⟨some 56, none, .mov (.t 11)⟩,
  ⟨some 6, none, .mov (.t 56)⟩,
  ⟨some 7, none, .mov (.c (.int .i64 2))⟩])
  (.ret))
  (.seq (.ops [⟨some 50, none, .mov (.t 11)⟩,
  ⟨some 6, none, .mov (.t 50)⟩,
  ⟨some 7, none, .mov (.c (.int .i64 0))⟩])
  (.ret)))
def c3_slices_choosePivotOrdered_int : C :=
 .seq (.ops [⟨some 49, none, .ld (.t 9)⟩])
  (.block 0
  (.seq (.ops [⟨some 52, none, .bin .eql (.t 49) (.c (.int .i64 0))⟩,
  ⟨some 51, none, .mov (.t 52)⟩])
  (.cond (.t 51)
  (.seq (.ops [⟨some 53, none, .mov (.t 11)⟩,
  ⟨some 6, none, .mov (.t 53)⟩,
  ⟨some 7, none, .mov (.c (.int .i64 1))⟩])
  (.ret))
  (c2_slices_choosePivotOrdered_int))))
def c4_slices_choosePivotOrdered_int : C :=
 .seq (.ops [⟨some 26, none, .mov (.t 1)⟩,
  ⟨some 27, none, .mov (.t 8)⟩,
  ⟨some 28, none, .bin .quo (.t 27) (.c (.int .i64 4))⟩,
  ⟨some 29, none, .bin .mul (.t 28) (.c (.int .i64 3))⟩,
  ⟨some 30, none, .bin .add (.t 26) (.t 29)⟩,
  ⟨some 12, none, .mov (.t 30)⟩])
  (.seq (.seq (.ops [⟨some 31, none, .mov (.t 8)⟩,
  ⟨some 32, none, .bin .geq (.t 31) (.c (.int .i64 8))⟩])
  (.cond (.t 32)
  (c1_slices_choosePivotOrdered_int)
  (.skip)))
  (c3_slices_choosePivotOrdered_int))
def c5_slices_choosePivotOrdered_int : C :=
 .seq (.ops [⟨some 16, none, .mov (.t 1)⟩,
  ⟨some 17, none, .mov (.t 8)⟩,
  ⟨some 18, none, .bin .quo (.t 17) (.c (.int .i64 4))⟩,
  ⟨some 19, none, .bin .mul (.t 18) (.c (.int .i64 1))⟩,
  ⟨some 20, none, .bin .add (.t 16) (.t 19)⟩,
  ⟨some 10, none, .mov (.t 20)⟩])
  (.seq (.ops [⟨some 21, none, .mov (.t 1)⟩,
  ⟨some 22, none, .mov (.t 8)⟩,
  ⟨some 23, none, .bin .quo (.t 22) (.c (.int .i64 4))⟩,
  ⟨some 24, none, .bin .mul (.t 23) (.c (.int .i64 2))⟩,
  ⟨some 25, none, .bin .add (.t 21) (.t 24)⟩,
  ⟨some 11, none, .mov (.t 25)⟩])
  (c4_slices_choosePivotOrdered_int))
def c_slices_choosePivotOrdered_int : C :=
 .seq (.ops [⟨some 6, none, .mov (.c (.int .i64 0))⟩,
  ⟨some 7, none, .mov (.c (.int .i64 0))⟩])
  (.seq (.ops [⟨some 13, none, .mov (.t 2)⟩,
  ⟨some 14, none, .mov (.t 1)⟩,
  ⟨some 15, none, .bin .sub (.t 13) (.t 14)⟩,
  ⟨some 8, none, .mov (.t 15)⟩])
  (.seq (.ops [⟨some 9, none, .new [(.int .i64 0)]⟩])
  (c5_slices_choosePivotOrdered_int)))
def f_slices_choosePivotOrdered_int : F := ⟨c_slices_choosePivotOrdered_int, [.t 6, .t 7], some []⟩
theorem h_slices_choosePivotOrdered_int : compF Tryz.prog (compAny Tryz.prog) n_slices_choosePivotOrdered_int = some (f_slices_choosePivotOrdered_int.body, f_slices_choosePivotOrdered_int.res) := by kernel_rfl
def c0_slices_reverseRangeOrdered_int : C :=
 .block 1
  (.seq (.any 0 [.op 4 ⟨some 18, none, .mov (.t 0)⟩,
  .op 5 ⟨some 19, none, .mov (.t 7)⟩,
  .op 6 ⟨some 20, none, .ia 1 (.t 18) (.t 19)⟩,
  .op 7 ⟨some 21, none, .ld (.t 20)⟩,
  .op 8 ⟨some 22, none, .mov (.t 0)⟩,
  .op 9 ⟨some 23, none, .mov (.t 6)⟩,
  .op 10 ⟨some 24, none, .ia 1 (.t 22) (.t 23)⟩,
  .op 11 ⟨some 25, none, .ld (.t 24)⟩,
  .op 0 ⟨some 14, none, .mov (.t 0)⟩,
  .op 1 ⟨some 15, none, .mov (.t 6)⟩,
  .op 12 ⟨some 26, none, .ia 1 (.t 14) (.t 15)⟩,
  .op 13 ⟨none, none, .st (.t 26) (.t 21)⟩,
  .op 2 ⟨some 16, none, .mov (.t 0)⟩,
  .op 3 ⟨some 17, none, .mov (.t 7)⟩,
  .op 14 ⟨some 27, none, .ia 1 (.t 16) (.t 17)⟩,
  .op 15 ⟨none, none, .st (.t 27) (.t 25)⟩])
  (.seq (.ops [⟨some 28, none, .mov (.t 6)⟩,
  ⟨some 29, none, .bin .add (.t 28) (.c (.int .i64 1))⟩,
  ⟨some 6, none, .mov (.t 29)⟩])
  (.ops [⟨some 30, none, .mov (.t 7)⟩,
  ⟨some 31, none, .bin .sub (.t 30) (.c (.int .i64 1))⟩,
  ⟨some 7, none, .mov (.t 31)⟩])))
def c1_slices_reverseRangeOrdered_int : C :=
 .seq (.seq (.ops [⟨some 11, none, .mov (.t 6)⟩,
  ⟨some 12, none, .mov (.t 7)⟩,
  ⟨some 13, none, .bin .lss (.t 11) (.t 12)⟩])
  (.cond (.t 13)
  (.skip)
  (.exit 0)))
  (c0_slices_reverseRangeOrdered_int)
def c_slices_reverseRangeOrdered_int : C :=
 .seq (.ops [⟨some 8, none, .mov (.t 1)⟩,
  ⟨some 6, none, .mov (.t 8)⟩])
  (.seq (.ops [⟨some 9, none, .mov (.t 2)⟩,
  ⟨some 10, none, .bin .sub (.t 9) (.c (.int .i64 1))⟩,
  ⟨some 7, none, .mov (.t 10)⟩])
  (.block 0
  (.loop c1_slices_reverseRangeOrdered_int)))
def f_slices_reverseRangeOrdered_int : F := ⟨c_slices_reverseRangeOrdered_int, [], some []⟩
theorem h_slices_reverseRangeOrdered_int : compF Tryz.prog (compAny Tryz.prog) n_slices_reverseRangeOrdered_int = some (f_slices_reverseRangeOrdered_int.body, f_slices_reverseRangeOrdered_int.res) := by kernel_rfl
def c0_slices_partialInsertionSortOrdered_int : C :=
 .seq (.seq (.any 0 [.op 0 ⟨some 17, none, .mov (.t 7)⟩,
  .op 1 ⟨some 18, none, .mov (.t 2)⟩,
  .op 2 ⟨some 19, none, .bin .lss (.t 17) (.t 18)⟩,
  .op 3 ⟨some 20, none, .mov (.t 19)⟩,
  .op 4 ⟨some 21, some (20, true), .mov (.t 0)⟩,
  .op 5 ⟨some 22, some (20, true), .mov (.t 7)⟩,
  .op 6 ⟨some 23, some (20, true), .ia 1 (.t 21) (.t 22)⟩,
  .op 7 ⟨some 24, some (20, true), .ld (.t 23)⟩,
  .op 8 ⟨some 25, some (20, true), .mov (.t 0)⟩,
  .op 9 ⟨some 26, some (20, true), .mov (.t 7)⟩,
  .op 10 ⟨some 27, some (20, true), .bin .sub (.t 26) (.c (.int .i64 1))⟩,
  .op 11 ⟨some 28, some (20, true), .ia 1 (.t 25) (.t 27)⟩,
  .op 12 ⟨some 29, some (20, true), .ld (.t 28)⟩,
  .op 13 ⟨some 30, some (20, true), .call n_cmp_Less_int [(.t 24), (.t 29)]⟩,
  .op 14 ⟨some 31, some (20, true), .un .not (.t 30)⟩,
  .op 15 ⟨some 32, none, .pick (.t 20) (.t 31) (.c (.bool false))⟩])
  (.cond (.t 32)
  (.skip)
  (.exit 2)))
  (.block 3
  (.ops [⟨some 33, none, .mov (.t 7)⟩,
  ⟨some 34, none, .bin .add (.t 33) (.c (.int .i64 1))⟩,
  ⟨some 7, none, .mov (.t 34)⟩]))
def c1_slices_partialInsertionSortOrdered_int : C :=
 .any 0 [.op 5 ⟨some 84, none, .mov (.t 0)⟩,
  .op 6 ⟨some 85, none, .mov (.t 9)⟩,
  .op 7 ⟨some 86, none, .bin .sub (.t 85) (.c (.int .i64 1))⟩,
  .op 8 ⟨some 87, none, .ia 1 (.t 84) (.t 86)⟩,
  .op 9 ⟨some 88, none, .ld (.t 87)⟩,
  .op 10 ⟨some 89, none, .mov (.t 0)⟩,
  .op 11 ⟨some 90, none, .mov (.t 9)⟩,
  .op 12 ⟨some 91, none, .ia 1 (.t 89) (.t 90)⟩,
  .op 13 ⟨some 92, none, .ld (.t 91)⟩,
  .op 0 ⟨some 79, none, .mov (.t 0)⟩,
  .op 1 ⟨some 80, none, .mov (.t 9)⟩,
  .op 14 ⟨some 93, none, .ia 1 (.t 79) (.t 80)⟩,
  .op 15 ⟨none, none, .st (.t 93) (.t 88)⟩,
  .op 2 ⟨some 81, none, .mov (.t 0)⟩,
  .op 3 ⟨some 82, none, .mov (.t 9)⟩,
  .op 4 ⟨some 83, none, .bin .sub (.t 82) (.c (.int .i64 1))⟩,
  .op 16 ⟨some 94, none, .ia 1 (.t 81) (.t 83)⟩,
  .op 17 ⟨none, none, .st (.t 94) (.t 92)⟩]
def c2_slices_partialInsertionSortOrdered_int : C :=
 .seq (.block 5
  (.seq (.seq (.any 0 [.op 0 ⟨some 68, none, .mov (.t 0)⟩,
  .op 1 ⟨some 69, none, .mov (.t 9)⟩,
  .op 2 ⟨some 70, none, .ia 1 (.t 68) (.t 69)⟩,
  .op 3 ⟨some 71, none, .ld (.t 70)⟩,
  .op 4 ⟨some 72, none, .mov (.t 0)⟩,
  .op 5 ⟨some 73, none, .mov (.t 9)⟩,
  .op 6 ⟨some 74, none, .bin .sub (.t 73) (.c (.int .i64 1))⟩,
  .op 7 ⟨some 75, none, .ia 1 (.t 72) (.t 74)⟩,
  .op 8 ⟨some 76, none, .ld (.t 75)⟩,
  .op 9 ⟨some 77, none, .call n_cmp_Less_int [(.t 71), (.t 76)]⟩,
  .op 10 ⟨some 78, none, .un .not (.t 77)⟩])
  (.cond (.t 78)
  (.exit 4)
  (.skip)))
  (c1_slices_partialInsertionSortOrdered_int)))
  (.ops [⟨some 66, none, .mov (.t 9)⟩,
  ⟨some 67, none, .bin .sub (.t 66) (.c (.int .i64 1))⟩,
  ⟨some 9, none, .mov (.t 67)⟩])
def c3_slices_partialInsertionSortOrdered_int : C :=
 .seq (.seq (.ops [⟨some 64, none, .mov (.t 9)⟩,
  ⟨some 65, none, .bin .geq (.t 64) (.c (.int .i64 1))⟩])
  (.cond (.t 65)
  (.skip)
  (.exit 4)))
  (c2_slices_partialInsertionSortOrdered_int)
def c4_slices_partialInsertionSortOrdered_int : C :=
 .any 0 [.op 5 ⟨some 122, none, .mov (.t 0)⟩,
  .op 6 ⟨some 123, none, .mov (.t 10)⟩,
  .op 7 ⟨some 124, none, .bin .sub (.t 123) (.c (.int .i64 1))⟩,
  .op 8 ⟨some 125, none, .ia 1 (.t 122) (.t 124)⟩,
  .op 9 ⟨some 126, none, .ld (.t 125)⟩,
  .op 10 ⟨some 127, none, .mov (.t 0)⟩,
  .op 11 ⟨some 128, none, .mov (.t 10)⟩,
  .op 12 ⟨some 129, none, .ia 1 (.t 127) (.t 128)⟩,
  .op 13 ⟨some 130, none, .ld (.t 129)⟩,
  .op 0 ⟨some 117, none, .mov (.t 0)⟩,
  .op 1 ⟨some 118, none, .mov (.t 10)⟩,
  .op 14 ⟨some 131, none, .ia 1 (.t 117) (.t 118)⟩,
  .op 15 ⟨none, none, .st (.t 131) (.t 126)⟩,
  .op 2 ⟨some 119, none, .mov (.t 0)⟩,
  .op 3 ⟨some 120, none, .mov (.t 10)⟩,
  .op 4 ⟨some 121, none, .bin .sub (.t 120) (.c (.int .i64 1))⟩,
  .op 16 ⟨some 132, none, .ia 1 (.t 119) (.t 121)⟩,
  .op 17 ⟨none, none, .st (.t 132) (.t 130)⟩]
def c5_slices_partialInsertionSortOrdered_int : C :=
 .seq (.block 7
  (.seq (.seq (.any 0 [.op 0 ⟨some 106, none, .mov (.t 0)⟩,
  .op 1 ⟨some 107, none, .mov (.t 10)⟩,
  .op 2 ⟨some 108, none, .ia 1 (.t 106) (.t 107)⟩,
  .op 3 ⟨some 109, none, .ld (.t 108)⟩,
  .op 4 ⟨some 110, none, .mov (.t 0)⟩,
  .op 5 ⟨some 111, none, .mov (.t 10)⟩,
  .op 6 ⟨some 112, none, .bin .sub (.t 111) (.c (.int .i64 1))⟩,
  .op 7 ⟨some 113, none, .ia 1 (.t 110) (.t 112)⟩,
  .op 8 ⟨some 114, none, .ld (.t 113)⟩,
  .op 9 ⟨some 115, none, .call n_cmp_Less_int [(.t 109), (.t 114)]⟩,
  .op 10 ⟨some 116, none, .un .not (.t 115)⟩])
  (.cond (.t 116)
  (.exit 6)
  (.skip)))
  (c4_slices_partialInsertionSortOrdered_int)))
  (.ops [⟨some 104, none, .mov (.t 10)⟩,
  ⟨some 105, none, .bin .add (.t 104) (.c (.int .i64 1))⟩,
  ⟨some 10, none, .mov (.t 105)⟩])
def c6_slices_partialInsertionSortOrdered_int : C :=
 .seq (.seq (.ops [⟨some 101, none, .mov (.t 10)⟩,
  ⟨some 102, none, .mov (.t 2)⟩,
  ⟨some 103, none, .bin .lss (.t 101) (.t 102)⟩])
  (.cond (.t 103)
  (.skip)
  (.exit 6)))
  (c5_slices_partialInsertionSortOrdered_int)
def c7_slices_partialInsertionSortOrdered_int : C :=
 .seq (.ops [⟨some 95, none, .mov (.t 2)⟩,
  ⟨some 96, none, .mov (.t 7)⟩,
  ⟨some 97, none, .bin .sub (.t 95) (.t 96)⟩,
  ⟨some 98, none, .bin .geq (.t 97) (.c (.int .i64 2))⟩])
  (.cond (.t 98)
  (.seq (.ops [⟨some 99, none, .mov (.t 7)⟩,
  ⟨some 100, none, .bin .add (.t 99) (.c (.int .i64 1))⟩,
  ⟨some 10, none, .mov (.t 100)⟩])
  (.block 6
  (.loop c6_slices_partialInsertionSortOrdered_int)))
  (.skip))
def c8_slices_partialInsertionSortOrdered_int : C :=
 .seq (.seq (.ops [⟨some 58, none, .mov (.t 7)⟩,
  ⟨some 59, none, .mov (.t 1)⟩,
  ⟨some 60, none, .bin .sub (.t 58) (.t 59)⟩,
  ⟨some 61, none, .bin .geq (.t 60) (.c (.int .i64 2))⟩])
  (.cond (.t 61)
  (.seq (.ops [⟨some 62, none, .mov (.t 7)⟩,
  ⟨some 63, none, .bin .sub (.t 62) (.c (.int .i64 1))⟩,
  ⟨some 9, none, .mov (.t 63)⟩])
  (.block 4
  (.loop c3_slices_partialInsertionSortOrdered_int)))
  (.skip)))
  (c7_slices_partialInsertionSortOrdered_int)
def c9_slices_partialInsertionSortOrdered_int : C :=
 .seq (.any 0 [.op 5 ⟨some 47, none, .mov (.t 0)⟩,
  .op 6 ⟨some 48, none, .mov (.t 7)⟩,
  .op 7 ⟨some 49, none, .bin .sub (.t 48) (.c (.int .i64 1))⟩,
  .op 8 ⟨some 50, none, .ia 1 (.t 47) (.t 49)⟩,
  .op 9 ⟨some 51, none, .ld (.t 50)⟩,
  .op 10 ⟨some 52, none, .mov (.t 0)⟩,
  .op 11 ⟨some 53, none, .mov (.t 7)⟩,
  .op 12 ⟨some 54, none, .ia 1 (.t 52) (.t 53)⟩,
  .op 13 ⟨some 55, none, .ld (.t 54)⟩,
  .op 0 ⟨some 42, none, .mov (.t 0)⟩,
  .op 1 ⟨some 43, none, .mov (.t 7)⟩,
  .op 14 ⟨some 56, none, .ia 1 (.t 42) (.t 43)⟩,
  .op 15 ⟨none, none, .st (.t 56) (.t 51)⟩,
  .op 2 ⟨some 44, none, .mov (.t 0)⟩,
  .op 3 ⟨some 45, none, .mov (.t 7)⟩,
  .op 4 ⟨some 46, none, .bin .sub (.t 45) (.c (.int .i64 1))⟩,
  .op 16 ⟨some 57, none, .ia 1 (.t 44) (.t 46)⟩,
  .op 17 ⟨none, none, .st (.t 57) (.t 55)⟩])
  (c8_slices_partialInsertionSortOrdered_int)
def c10_slices_partialInsertionSortOrdered_int : C :=
 .seq (.seq (.ops [⟨some 35, none, .mov (.t 7)⟩,
  ⟨some 36, none, .mov (.t 2)⟩,
  ⟨some 37, none, .bin .eql (.t 35) (.t 36)⟩])
  (.cond (.t 37)
  (.seq (.ops [⟨some 6, none, .mov (.c (.bool true))⟩])
  (.ret))
  (.skip)))
  (.seq (.seq (.ops [⟨some 38, none, .mov (.t 2)⟩,
  ⟨some 39, none, .mov (.t 1)⟩,
  ⟨some 40, none, .bin .sub (.t 38) (.t 39)⟩,
  ⟨some 41, none, .bin .lss (.t 40) (.c (.int .i64 50))⟩])
  (.cond (.t 41)
  (.seq (.ops [⟨some 6, none, .mov (.c (.bool false))⟩])
  (.ret))
  (.skip)))
  (c9_slices_partialInsertionSortOrdered_int))
def c11_slices_partialInsertionSortOrdered_int : C :=
 .seq (.seq (.ops [⟨some 13, none, .mov (.t 8)⟩,
  ⟨some 14, none, .bin .lss (.t 13) (.c (.int .i64 5))⟩])
  (.cond (.t 14)
  (.skip)
  (.exit 0)))
  (.seq (.block 1
  (.seq (.block 2
  (.loop c0_slices_partialInsertionSortOrdered_int))
  (c10_slices_partialInsertionSortOrdered_int)))
  (.ops [⟨some 15, none, .mov (.t 8)⟩,
  ⟨some 16, none, .bin .add (.t 15) (.c (.int .i64 1))⟩,
  ⟨some 8, none, .mov (.t 16)⟩]))
def c_slices_partialInsertionSortOrdered_int : C :=
 .seq (.ops [⟨some 6, none, .mov (.c (.bool false))⟩])
  (.seq (.ops [⟨some 11, none, .mov (.t 1)⟩,
  ⟨some 12, none, .bin .add (.t 11) (.c (.int .i64 1))⟩,
  ⟨some 7, none, .mov (.t 12)⟩])
  (.seq (.seq (.ops [⟨some 8, none, .mov (.c (.int .i64 0))⟩])
  (.block 0
  (.loop c11_slices_partialInsertionSortOrdered_int)))
  (.seq (.ops [⟨some 6, none, .mov (.c (.bool false))⟩])
  (.ret))))
def f_slices_partialInsertionSortOrdered_int : F := ⟨c_slices_partialInsertionSortOrdered_int, [.t 6], some []⟩
theorem h_slices_partialInsertionSortOrdered_int : compF Tryz.prog (compAny Tryz.prog) n_slices_partialInsertionSortOrdered_int = some (f_slices_partialInsertionSortOrdered_int.body, f_slices_partialInsertionSortOrdered_int.res) := by kernel_rfl
def c0_cmp_Less_int : C :=
 .seq (.ops [⟨some 5, none, .mov (.t 0)⟩,
  ⟨some 6, none, .call n_cmp_isNaN_int [(.t 5)]⟩,
  ⟨some 7, none, .mov (.t 6)⟩,
  ⟨some 8, some (7, true), .mov (.t 1)⟩,
  ⟨some 9, some (7, true), .call n_cmp_isNaN_int [(.t 8)]⟩,
  ⟨some 10, some (7, true), .un .not (.t 9)⟩,
  ⟨some 11, none, .pick (.t 7) (.t 10) (.c (.bool false))⟩,
  ⟨some 12, none, .mov (.t 11)⟩,
  ⟨some 13, some (12, false), .mov (.t 0)⟩,
  ⟨some 14, some (12, false), .mov (.t 1)⟩,
  ⟨some 15, some (12, false), .bin .lss (.t 13) (.t 14)⟩,
  ⟨some 16, none, .pick (.t 12) (.c (.bool true)) (.t 15)⟩,
  ⟨some 4, none, .mov (.t 16)⟩])
  (.ret)
def c_cmp_Less_int : C :=
 .seq (.ops [⟨some 4, none, .mov (.c (.bool false))⟩])
  (c0_cmp_Less_int)
def f_cmp_Less_int : F := ⟨c_cmp_Less_int, [.t 4], some []⟩
theorem h_cmp_Less_int : compF Tryz.prog (compAny Tryz.prog) n_cmp_Less_int = some (f_cmp_Less_int.body, f_cmp_Less_int.res) := by kernel_rfl
def c0_slices_partitionEqualOrdered_int : C :=
 .seq (.seq (.any 0 [.op 0 ⟨some 29, none, .mov (.t 9)⟩,
  .op 1 ⟨some 30, none, .mov (.t 10)⟩,
  .op 2 ⟨some 31, none, .bin .leq (.t 29) (.t 30)⟩,
  .op 3 ⟨some 32, none, .mov (.t 31)⟩,
  .op 4 ⟨some 33, some (32, true), .mov (.t 0)⟩,
  .op 5 ⟨some 34, some (32, true), .mov (.t 1)⟩,
  .op 6 ⟨some 35, some (32, true), .ia 1 (.t 33) (.t 34)⟩,
  .op 7 ⟨some 36, some (32, true), .ld (.t 35)⟩,
  .op 8 ⟨some 37, some (32, true), .mov (.t 0)⟩,
  .op 9 ⟨some 38, some (32, true), .mov (.t 9)⟩,
  .op 10 ⟨some 39, some (32, true), .ia 1 (.t 37) (.t 38)⟩,
  .op 11 ⟨some 40, some (32, true), .ld (.t 39)⟩,
  .op 12 ⟨some 41, some (32, true), .call n_cmp_Less_int [(.t 36), (.t 40)]⟩,
  .op 13 ⟨some 42, some (32, true), .un .not (.t 41)⟩,
  .op 14 ⟨some 43, none, .pick (.t 32) (.t 42) (.c (.bool false))⟩])
  (.cond (.t 43)
  (.skip)
  (.exit 2)))
  (.block 3
  (.ops [⟨some 44, none, .mov (.t 9)⟩,
  ⟨some 45, none, .bin .add (.t 44) (.c (.int .i64 1))⟩,
  ⟨some 9, none, .mov (.t 45)⟩]))
def c1_slices_partitionEqualOrdered_int : C :=
 .seq (.seq (.any 0 [.op 0 ⟨some 46, none, .mov (.t 9)⟩,
  .op 1 ⟨some 47, none, .mov (.t 10)⟩,
  .op 2 ⟨some 48, none, .bin .leq (.t 46) (.t 47)⟩,
  .op 3 ⟨some 49, none, .mov (.t 48)⟩,
  .op 4 ⟨some 50, some (49, true), .mov (.t 0)⟩,
  .op 5 ⟨some 51, some (49, true), .mov (.t 1)⟩,
  .op 6 ⟨some 52, some (49, true), .ia 1 (.t 50) (.t 51)⟩,
  .op 7 ⟨some 53, some (49, true), .ld (.t 52)⟩,
  .op 8 ⟨some 54, some (49, true), .mov (.t 0)⟩,
  .op 9 ⟨some 55, some (49, true), .mov (.t 10)⟩,
  .op 10 ⟨some 56, some (49, true), .ia 1 (.t 54) (.t 55)⟩,
  .op 11 ⟨some 57, some (49, true), .ld (.t 56)⟩,
  .op 12 ⟨some 58, some (49, true), .call n_cmp_Less_int [(.t 53), (.t 57)]⟩,
  .op 13 ⟨some 59, none, .pick (.t 49) (.t 58) (.c (.bool false))⟩])
  (.cond (.t 59)
  (.skip)
  (.exit 4)))
  (.block 5
  (.ops [⟨some 60, none, .mov (.t 10)⟩,
  ⟨some 61, none, .bin .sub (.t 60) (.c (.int .i64 1))⟩,
  ⟨some 10, none, .mov (.t 61)⟩]))
def c2_slices_partitionEqualOrdered_int : C :=
 .seq (.any 0 [.op 4 ⟨some 69, none, .mov (.t 0)⟩,
  .op 5 ⟨some 70, none, .mov (.t 10)⟩,
  .op 6 ⟨some 71, none, .ia 1 (.t 69) (.t 70)⟩,
  .op 7 ⟨some 72, none, .ld (.t 71)⟩,
  .op 8 ⟨some 73, none, .mov (.t 0)⟩,
  .op 9 ⟨some 74, none, .mov (.t 9)⟩,
  .op 10 ⟨some 75, none, .ia 1 (.t 73) (.t 74)⟩,
  .op 11 ⟨some 76, none, .ld (.t 75)⟩,
  .op 0 ⟨some 65, none, .mov (.t 0)⟩,
  .op 1 ⟨some 66, none, .mov (.t 9)⟩,
  .op 12 ⟨some 77, none, .ia 1 (.t 65) (.t 66)⟩,
  .op 13 ⟨none, none, .st (.t 77) (.t 72)⟩,
  .op 2 ⟨some 67, none, .mov (.t 0)⟩,
  .op 3 ⟨some 68, none, .mov (.t 10)⟩,
  .op 14 ⟨some 78, none, .ia 1 (.t 67) (.t 68)⟩,
  .op 15 ⟨none, none, .st (.t 78) (.t 76)⟩])
  (.seq (.ops [⟨some 79, none, .mov (.t 9)⟩,
  ⟨some 80, none, .bin .add (.t 79) (.c (.int .i64 1))⟩,
  ⟨some 9, none, .mov (.t 80)⟩])
  (.ops [⟨some 81, none, .mov (.t 10)⟩,
  ⟨some 82, none, .bin .sub (.t 81) (.c (.int .i64 1))⟩,
  ⟨some 10, none, .mov (.t 82)⟩]))
def c3_slices_partitionEqualOrdered_int : C :=
 .block 1
  (.seq (.block 2
  (.loop c0_slices_partitionEqualOrdered_int))
  (.seq (.block 4
  (.loop c1_slices_partitionEqualOrdered_int))
  (.seq (.seq (.ops [⟨some 62, none, .mov (.t 9)⟩,
  ⟨some 63, none, .mov (.t 10)⟩,
  ⟨some 64, none, .bin .gtr (.t 62) (.t 63)⟩])
  (.cond (.t 64)
  (.exit 0)
  (.skip)))
  (c2_slices_partitionEqualOrdered_int))))
def c4_slices_partitionEqualOrdered_int : C :=
 .seq (.ops [⟨some 25, none, .mov (.t 1)⟩,
  ⟨some 26, none, .bin .add (.t 25) (.c (.int .i64 1))⟩,
  ⟨some 27, none, .mov (.t 2)⟩,
  ⟨some 28, none, .bin .sub (.t 27) (.c (.int .i64 1))⟩,
  ⟨some 9, none, .mov (.t 26)⟩,
  ⟨some 10, none, .mov (.t 28)⟩])
  (.seq (.block 0
  (.loop c3_slices_partitionEqualOrdered_int))
  (.seq (.ops [⟨some 83, none, .mov (.t 9)⟩,
  ⟨some 8, none, .mov (.t 83)⟩])
  (.ret)))
def c5_slices_partitionEqualOrdered_int : C :=
 .seq (.any 0 [.op 4 ⟨some 15, none, .mov (.t 0)⟩,
  .op 5 ⟨some 16, none, .mov (.t 3)⟩,
  .op 6 ⟨some 17, none, .ia 1 (.t 15) (.t 16)⟩,
  .op 7 ⟨some 18, none, .ld (.t 17)⟩,
  .op 8 ⟨some 19, none, .mov (.t 0)⟩,
  .op 9 ⟨some 20, none, .mov (.t 1)⟩,
  .op 10 ⟨some 21, none, .ia 1 (.t 19) (.t 20)⟩,
  .op 11 ⟨some 22, none, .ld (.t 21)⟩,
  .op 0 ⟨some 11, none, .mov (.t 0)⟩,
  .op 1 ⟨some 12, none, .mov (.t 1)⟩,
  .op 12 ⟨some 23, none, .ia 1 (.t 11) (.t 12)⟩,
  .op 13 ⟨none, none, .st (.t 23) (.t 18)⟩,
  .op 2 ⟨some 13, none, .mov (.t 0)⟩,
  .op 3 ⟨some 14, none, .mov (.t 3)⟩,
  .op 14 ⟨some 24, none, .ia 1 (.t 13) (.t 14)⟩,
  .op 15 ⟨none, none, .st (.t 24) (.t 22)⟩])
  (c4_slices_partitionEqualOrdered_int)
def c_slices_partitionEqualOrdered_int : C :=
 .seq (.ops [⟨some 8, none, .mov (.c (.int .i64 0))⟩])
  (c5_slices_partitionEqualOrdered_int)
def f_slices_partitionEqualOrdered_int : F := ⟨c_slices_partitionEqualOrdered_int, [.t 8], some []⟩
theorem h_slices_partitionEqualOrdered_int : compF Tryz.prog (compAny Tryz.prog) n_slices_partitionEqualOrdered_int = some (f_slices_partitionEqualOrdered_int.body, f_slices_partitionEqualOrdered_int.res) := by kernel_rfl
def c0_slices_partitionOrdered_int : C :=
 .seq (.seq (.any 0 [.op 0 ⟨some 30, none, .mov (.t 10)⟩,
  .op 1 ⟨some 31, none, .mov (.t 11)⟩,
  .op 2 ⟨some 32, none, .bin .leq (.t 30) (.t 31)⟩,
  .op 3 ⟨some 33, none, .mov (.t 32)⟩,
  .op 4 ⟨some 34, some (33, true), .mov (.t 0)⟩,
  .op 5 ⟨some 35, some (33, true), .mov (.t 10)⟩,
  .op 6 ⟨some 36, some (33, true), .ia 1 (.t 34) (.t 35)⟩,
  .op 7 ⟨some 37, some (33, true), .ld (.t 36)⟩,
  .op 8 ⟨some 38, some (33, true), .mov (.t 0)⟩,
  .op 9 ⟨some 39, some (33, true), .mov (.t 1)⟩,
  .op 10 ⟨some 40, some (33, true), .ia 1 (.t 38) (.t 39)⟩,
  .op 11 ⟨some 41, some (33, true), .ld (.t 40)⟩,
  .op 12 ⟨some 42, some (33, true), .call n_cmp_Less_int [(.t 37), (.t 41)]⟩,
  .op 13 ⟨some 43, none, .pick (.t 33) (.t 42) (.c (.bool false))⟩])
  (.cond (.t 43)
  (.skip)
  (.exit 0)))
  (.block 1
  (.ops [⟨some 44, none, .mov (.t 10)⟩,
  ⟨some 45, none, .bin .add (.t 44) (.c (.int .i64 1))⟩,
  ⟨some 10, none, .mov (.t 45)⟩]))
def c1_slices_partitionOrdered_int : C :=
 .seq (.seq (.any 0 [.op 0 ⟨some 46, none, .mov (.t 10)⟩,
  .op 1 ⟨some 47, none, .mov (.t 11)⟩,
  .op 2 ⟨some 48, none, .bin .leq (.t 46) (.t 47)⟩,
  .op 3 ⟨some 49, none, .mov (.t 48)⟩,
  .op 4 ⟨some 50, some (49, true), .mov (.t 0)⟩,
  .op 5 ⟨some 51, some (49, true), .mov (.t 11)⟩,
  .op 6 ⟨some 52, some (49, true), .ia 1 (.t 50) (.t 51)⟩,
  .op 7 ⟨some 53, some (49, true), .ld (.t 52)⟩,
  .op 8 ⟨some 54, some (49, true), .mov (.t 0)⟩,
  .op 9 ⟨some 55, some (49, true), .mov (.t 1)⟩,
  .op 10 ⟨some 56, some (49, true), .ia 1 (.t 54) (.t 55)⟩,
  .op 11 ⟨some 57, some (49, true), .ld (.t 56)⟩,
  .op 12 ⟨some 58, some (49, true), .call n_cmp_Less_int [(.t 53), (.t 57)]⟩,
  .op 13 ⟨some 59, some (49, true), .un .not (.t 58)⟩,
  .op 14 ⟨some 60, none, .pick (.t 49) (.t 59) (.c (.bool false))⟩])
  (.cond (.t 60)
  (.skip)
  (.exit 2)))
  (.block 3
  (.ops [⟨some 61, none, .mov (.t 11)⟩,
  ⟨some 62, none, .bin .sub (.t 61) (.c (.int .i64 1))⟩,
  ⟨some 11, none, .mov (.t 62)⟩]))
def c2_slices_partitionOrdered_int : C :=
 .seq (.any 0 [.op 4 ⟨some 70, none, .mov (.t 0)⟩,
  .op 5 ⟨some 71, none, .mov (.t 1)⟩,
  .op 6 ⟨some 72, none, .ia 1 (.t 70) (.t 71)⟩,
  .op 7 ⟨some 73, none, .ld (.t 72)⟩,
  .op 8 ⟨some 74, none, .mov (.t 0)⟩,
  .op 9 ⟨some 75, none, .mov (.t 11)⟩,
  .op 10 ⟨some 76, none, .ia 1 (.t 74) (.t 75)⟩,
  .op 11 ⟨some 77, none, .ld (.t 76)⟩,
  .op 0 ⟨some 66, none, .mov (.t 0)⟩,
  .op 1 ⟨some 67, none, .mov (.t 11)⟩,
  .op 12 ⟨some 78, none, .ia 1 (.t 66) (.t 67)⟩,
  .op 13 ⟨none, none, .st (.t 78) (.t 73)⟩,
  .op 2 ⟨some 68, none, .mov (.t 0)⟩,
  .op 3 ⟨some 69, none, .mov (.t 1)⟩,
  .op 14 ⟨some 79, none, .ia 1 (.t 68) (.t 69)⟩,
  .op 15 ⟨none, none, .st (.t 79) (.t 77)⟩])
  (.seq (.ops [⟨some 80, none, .mov (.t 11)⟩,
  ⟨some 8, none, .mov (.t 80)⟩,
  ⟨some 9, none, .mov (.c (.bool true))⟩])
  (.ret))
def c3_slices_partitionOrdered_int : C :=
 .seq (.seq (.any 0 [.op 0 ⟨some 99, none, .mov (.t 10)⟩,
  .op 1 ⟨some 100, none, .mov (.t 11)⟩,
  .op 2 ⟨some 101, none, .bin .leq (.t 99) (.t 100)⟩,
  .op 3 ⟨some 102, none, .mov (.t 101)⟩,
  .op 4 ⟨some 103, some (102, true), .mov (.t 0)⟩,
  .op 5 ⟨some 104, some (102, true), .mov (.t 10)⟩,
  .op 6 ⟨some 105, some (102, true), .ia 1 (.t 103) (.t 104)⟩,
  .op 7 ⟨some 106, some (102, true), .ld (.t 105)⟩,
  .op 8 ⟨some 107, some (102, true), .mov (.t 0)⟩,
  .op 9 ⟨some 108, some (102, true), .mov (.t 1)⟩,
  .op 10 ⟨some 109, some (102, true), .ia 1 (.t 107) (.t 108)⟩,
  .op 11 ⟨some 110, some (102, true), .ld (.t 109)⟩,
  .op 12 ⟨some 111, some (102, true), .call n_cmp_Less_int [(.t 106), (.t 110)]⟩,
  .op 13 ⟨some 112, none, .pick (.t 102) (.t 111) (.c (.bool false))⟩])
  (.cond (.t 112)
  (.skip)
  (.exit 6)))
  (.block 7
  (.ops [⟨some 113, none, .mov (.t 10)⟩,
  ⟨some 114, none, .bin .add (.t 113) (.c (.int .i64 1))⟩,
  ⟨some 10, none, .mov (.t 114)⟩]))
def c4_slices_partitionOrdered_int : C :=
 .seq (.seq (.any 0 [.op 0 ⟨some 115, none, .mov (.t 10)⟩,
  .op 1 ⟨some 116, none, .mov (.t 11)⟩,
  .op 2 ⟨some 117, none, .bin .leq (.t 115) (.t 116)⟩,
  .op 3 ⟨some 118, none, .mov (.t 117)⟩,
  .op 4 ⟨some 119, some (118, true), .mov (.t 0)⟩,
  .op 5 ⟨some 120, some (118, true), .mov (.t 11)⟩,
  .op 6 ⟨some 121, some (118, true), .ia 1 (.t 119) (.t 120)⟩,
  .op 7 ⟨some 122, some (118, true), .ld (.t 121)⟩,
  .op 8 ⟨some 123, some (118, true), .mov (.t 0)⟩,
  .op 9 ⟨some 124, some (118, true), .mov (.t 1)⟩,
  .op 10 ⟨some 125, some (118, true), .ia 1 (.t 123) (.t 124)⟩,
  .op 11 ⟨some 126, some (118, true), .ld (.t 125)⟩,
  .op 12 ⟨some 127, some (118, true), .call n_cmp_Less_int [(.t 122), (.t 126)]⟩,
  .op 13 ⟨some 128, some (118, true), .un .not (.t 127)⟩,
  .op 14 ⟨some 129, none, .pick (.t 118) (.t 128) (.c (.bool false))⟩])
  (.cond (.t 129)
  (.skip)
  (.exit 8)))
  (.block 9
  (.ops [⟨some 130, none, .mov (.t 11)⟩,
  ⟨some 131, none, .bin .sub (.t 130) (.c (.int .i64 1))⟩,
  ⟨some 11, none, .mov (.t 131)⟩]))
def c5_slices_partitionOrdered_int : C :=
 .seq (.any 0 [.op 4 ⟨some 139, none, .mov (.t 0)⟩,
  .op 5 ⟨some 140, none, .mov (.t 11)⟩,
  .op 6 ⟨some 141, none, .ia 1 (.t 139) (.t 140)⟩,
  .op 7 ⟨some 142, none, .ld (.t 141)⟩,
  .op 8 ⟨some 143, none, .mov (.t 0)⟩,
  .op 9 ⟨some 144, none, .mov (.t 10)⟩,
  .op 10 ⟨some 145, none, .ia 1 (.t 143) (.t 144)⟩,
  .op 11 ⟨some 146, none, .ld (.t 145)⟩,
  .op 0 ⟨some 135, none, .mov (.t 0)⟩,
  .op 1 ⟨some 136, none, .mov (.t 10)⟩,
  .op 12 ⟨some 147, none, .ia 1 (.t 135) (.t 136)⟩,
  .op 13 ⟨none, none, .st (.t 147) (.t 142)⟩,
  .op 2 ⟨some 137, none, .mov (.t 0)⟩,
  .op 3 ⟨some 138, none, .mov (.t 11)⟩,
  .op 14 ⟨some 148, none, .ia 1 (.t 137) (.t 138)⟩,
  .op 15 ⟨none, none, .st (.t 148) (.t 146)⟩])
  (.seq (.ops [⟨some 149, none, .mov (.t 10)⟩,
  ⟨some 150, none, .bin .add (.t 149) (.c (.int .i64 1))⟩,
  ⟨some 10, none, .mov (.t 150)⟩])
  (.ops [⟨some 151, none, .mov (.t 11)⟩,
  ⟨some 152, none, .bin .sub (.t 151) (.c (.int .i64 1))⟩,
  ⟨some 11, none, .mov (.t 152)⟩]))
def c6_slices_partitionOrdered_int : C :=
 .block 5
  (.seq (.block 6
  (.loop c3_slices_partitionOrdered_int))
  (.seq (.block 8
  (.loop c4_slices_partitionOrdered_int))
  (.seq (.seq (.ops [⟨some 132, none, .mov (.t 10)⟩,
  ⟨some 133, none, .mov (.t 11)⟩,
  ⟨some 134, none, .bin .gtr (.t 132) (.t 133)⟩])
  (.cond (.t 134)
  (.exit 4)
  (.skip)))
  (c5_slices_partitionOrdered_int))))
def c7_slices_partitionOrdered_int : C :=
 .seq (.any 0 [.op 4 ⟨some 157, none, .mov (.t 0)⟩,
  .op 5 ⟨some 158, none, .mov (.t 1)⟩,
  .op 6 ⟨some 159, none, .ia 1 (.t 157) (.t 158)⟩,
  .op 7 ⟨some 160, none, .ld (.t 159)⟩,
  .op 8 ⟨some 161, none, .mov (.t 0)⟩,
  .op 9 ⟨some 162, none, .mov (.t 11)⟩,
  .op 10 ⟨some 163, none, .ia 1 (.t 161) (.t 162)⟩,
  .op 11 ⟨some 164, none, .ld (.t 163)⟩,
  .op 0 ⟨some 153, none, .mov (.t 0)⟩,
  .op 1 ⟨some 154, none, .mov (.t 11)⟩,
  .op 12 ⟨some 165, none, .ia 1 (.t 153) (.t 154)⟩,
  .op 13 ⟨none, none, .st (.t 165) (.t 160)⟩,
  .op 2 ⟨some 155, none, .mov (.t 0)⟩,
  .op 3 ⟨some 156, none, .mov (.t 1)⟩,
  .op 14 ⟨some 166, none, .ia 1 (.t 155) (.t 156)⟩,
  .op 15 ⟨none, none, .st (.t 166) (.t 164)⟩])
  (.seq (.ops [⟨some 167, none, .mov (.t 11)⟩,
  ⟨some 8, none, .mov (.t 167)⟩,
  ⟨some 9, none, .mov (.c (.bool false))⟩])
  (.ret))
def c8_slices_partitionOrdered_int : C :=
 .seq (.ops [⟨some 95, none, .mov (.t 10)⟩,
  ⟨some 96, none, .bin .add (.t 95) (.c (.int .i64 1))⟩,
  ⟨some 10, none, .mov (.t 96)⟩])
  (.seq (.ops [⟨some 97, none, .mov (.t 11)⟩,
  ⟨some 98, none, .bin .sub (.t 97) (.c (.int .i64 1))⟩,
  ⟨some 11, none, .mov (.t 98)⟩])
  (.seq (.block 4
  (.loop c6_slices_partitionOrdered_int))
  (c7_slices_partitionOrdered_int)))
def c9_slices_partitionOrdered_int : C :=
 .seq (.any 0 [.op 4 ⟨some 85, none, .mov (.t 0)⟩,
  .op 5 ⟨some 86, none, .mov (.t 11)⟩,
  .op 6 ⟨some 87, none, .ia 1 (.t 85) (.t 86)⟩,
  .op 7 ⟨some 88, none, .ld (.t 87)⟩,
  .op 8 ⟨some 89, none, .mov (.t 0)⟩,
  .op 9 ⟨some 90, none, .mov (.t 10)⟩,
  .op 10 ⟨some 91, none, .ia 1 (.t 89) (.t 90)⟩,
  .op 11 ⟨some 92, none, .ld (.t 91)⟩,
  .op 0 ⟨some 81, none, .mov (.t 0)⟩,
  .op 1 ⟨some 82, none, .mov (.t 10)⟩,
  .op 12 ⟨some 93, none, .ia 1 (.t 81) (.t 82)⟩,
  .op 13 ⟨none, none, .st (.t 93) (.t 88)⟩,
  .op 2 ⟨some 83, none, .mov (.t 0)⟩,
  .op 3 ⟨some 84, none, .mov (.t 11)⟩,
  .op 14 ⟨some 94, none, .ia 1 (.t 83) (.t 84)⟩,
  .op 15 ⟨none, none, .st (.t 94) (.t 92)⟩])
  (c8_slices_partitionOrdered_int)
def c10_slices_partitionOrdered_int : C :=
 .seq (.ops [⟨some 26, none, .mov (.t 1)⟩,
  ⟨some 27, none, .bin .add (.t 26) (.c (.int .i64 1))⟩,
  ⟨some 28, none, .mov (.t 2)⟩,
  ⟨some 29, none, .bin .sub (.t 28) (.c (.int .i64 1))⟩,
  ⟨some 10, none, .mov (.t 27)⟩,
  ⟨some 11, none, .mov (.t 29)⟩])
  (.seq (.block 0
  (.loop c0_slices_partitionOrdered_int))
  (.seq (.block 2
  (.loop c1_slices_partitionOrdered_int))
  (.seq (.seq (.ops [⟨some 63, none, .mov (.t 10)⟩,
  ⟨some 64, none, .mov (.t 11)⟩,
  ⟨some 65, none, .bin .gtr (.t 63) (.t 64)⟩])
  (.cond (.t 65)
  (c2_slices_partitionOrdered_int)
  (.skip)))
  (c9_slices_partitionOrdered_int))))
def c11_slices_partitionOrdered_int : C :=
 .seq (.any 0 [.op 4 ⟨some 16, none, .mov (.t 0)⟩,
  .op 5 ⟨some 17, none, .mov (.t 3)⟩,
  .op 6 ⟨some 18, none, .ia 1 (.t 16) (.t 17)⟩,
  .op 7 ⟨some 19, none, .ld (.t 18)⟩,
  .op 8 ⟨some 20, none, .mov (.t 0)⟩,
  .op 9 ⟨some 21, none, .mov (.t 1)⟩,
  .op 10 ⟨some 22, none, .ia 1 (.t 20) (.t 21)⟩,
  .op 11 ⟨some 23, none, .ld (.t 22)⟩,
  .op 0 ⟨some 12, none, .mov (.t 0)⟩,
  .op 1 ⟨some 13, none, .mov (.t 1)⟩,
  .op 12 ⟨some 24, none, .ia 1 (.t 12) (.t 13)⟩,
  .op 13 ⟨none, none, .st (.t 24) (.t 19)⟩,
  .op 2 ⟨some 14, none, .mov (.t 0)⟩,
  .op 3 ⟨some 15, none, .mov (.t 3)⟩,
  .op 14 ⟨some 25, none, .ia 1 (.t 14) (.t 15)⟩,
  .op 15 ⟨none, none, .st (.t 25) (.t 23)⟩])
  (c10_slices_partitionOrdered_int)
def c_slices_partitionOrdered_int : C :=
 .seq (.ops [⟨some 8, none, .mov (.c (.int .i64 0))⟩,
  ⟨some 9, none, .mov (.c (.bool false))⟩])
  (c11_slices_partitionOrdered_int)
def f_slices_partitionOrdered_int : F := ⟨c_slices_partitionOrdered_int, [.t 8, .t 9], some []⟩
theorem h_slices_partitionOrdered_int : compF Tryz.prog (compAny Tryz.prog) n_slices_partitionOrdered_int = some (f_slices_partitionOrdered_int.body, f_slices_partitionOrdered_int.res) := by kernel_rfl
def c0_math_bits_Len32 : C :=
 .seq (.ops [⟨some 13, none, .mov (.t 2)⟩,
  ⟨some 14, none, .mov (.t 0)⟩,
  ⟨some 15, none, .conv .u8 (.t 14)⟩,
  ⟨some 16, none, .ixs (.c (.string ⟨#[0, 1, 2, 2, 3, 3, 3, 3, 4, 4, 4, 4, 4, 4, 4, 4, 5, 5, 5, 5, 5, 5, 5, 5, 5, 5, 5, 5, 5, 5, 5, 5, 6, 6, 6, 6, 6, 6, 6, 6, 6, 6, 6, 6, 6, 6, 6, 6, 6, 6, 6, 6, 6, 6, 6, 6, 6, 6, 6, 6, 6, 6, 6, 6, 7, 7, 7, 7, 7, 7, 7, 7, 7, 7, 7, 7, 7, 7, 7, 7, 7, 7, 7, 7, 7, 7, 7, 7, 7, 7, 7, 7, 7, 7, 7, 7, 7, 7, 7, 7, 7, 7, 7, 7, 7, 7, 7, 7, 7, 7, 7, 7, 7, 7, 7, 7, 7, 7, 7, 7, 7, 7, 7, 7, 7, 7, 7, 7, 8, 8, 8, 8, 8, 8, 8, 8, 8, 8, 8, 8, 8, 8, 8, 8, 8, 8, 8, 8, 8, 8, 8, 8, 8, 8, 8, 8, 8, 8, 8, 8, 8, 8, 8, 8, 8, 8, 8, 8, 8, 8, 8, 8, 8, 8, 8, 8, 8, 8, 8, 8, 8, 8, 8, 8, 8, 8, 8, 8, 8, 8, 8, 8, 8, 8, 8, 8, 8, 8, 8, 8, 8, 8, 8, 8, 8, 8, 8, 8, 8, 8, 8, 8, 8, 8, 8, 8, 8, 8, 8, 8, 8, 8, 8, 8, 8, 8, 8, 8, 8, 8, 8, 8, 8, 8, 8, 8, 8, 8, 8, 8, 8, 8, 8, 8, 8, 8, 8, 8, 8, 8, 8, 8, 8, 8, 8, 8]⟩)) (.t 15)⟩,
  ⟨some 17, none, .conv .i64 (.t 16)⟩,
  ⟨some 18, none, .bin .add (.t 13) (.t 17)⟩,
  ⟨some 2, none, .mov (.t 18)⟩])
  (.ret)
def c1_math_bits_Len32 : C :=
 .seq (.seq (.ops [⟨some 7, none, .mov (.t 0)⟩,
  ⟨some 8, none, .bin .geq (.t 7) (.c (.int .u32 256))⟩])
  (.cond (.t 8)
  (.seq (.ops [⟨some 9, none, .mov (.t 0)⟩,
  ⟨some 10, none, .bin .shr (.t 9) (.c (.int .u64 8))⟩,
  ⟨some 0, none, .mov (.t 10)⟩])
  (.ops [⟨some 11, none, .mov (.t 2)⟩,
  ⟨some 12, none, .bin .add (.t 11) (.c (.int .i64 8))⟩,
  ⟨some 2, none, .mov (.t 12)⟩]))
  (.skip)))
  (c0_math_bits_Len32)
def c2_math_bits_Len32 : C :=
 .seq (.seq (.ops [⟨some 3, none, .mov (.t 0)⟩,
  ⟨some 4, none, .bin .geq (.t 3) (.c (.int .u32 65536))⟩])
  (.cond (.t 4)
  (.seq (.ops [⟨some 5, none, .mov (.t 0)⟩,
  ⟨some 6, none, .bin .shr (.t 5) (.c (.int .u64 16))⟩,
  ⟨some 0, none, .mov (.t 6)⟩])
  (.ops [⟨some 2, none, .mov (.c (.int .i64 16))⟩]))
  (.skip)))
  (c1_math_bits_Len32)
def c_math_bits_Len32 : C :=
 .seq (.ops [⟨some 2, none, .mov (.c (.int .i64 0))⟩])
  (c2_math_bits_Len32)
def f_math_bits_Len32 : F := ⟨c_math_bits_Len32, [.t 2], some []⟩
theorem h_math_bits_Len32 : compF Tryz.prog (compAny Tryz.prog) n_math_bits_Len32 = some (f_math_bits_Len32.body, f_math_bits_Len32.res) := by kernel_rfl
def c0_math_bits_Len64 : C :=
 .seq (.ops [⟨some 19, none, .mov (.t 2)⟩,
  ⟨some 20, none, .mov (.t 0)⟩,
  ⟨some 21, none, .conv .u8 (.t 20)⟩,
  ⟨some 22, none, .ixs (.c (.string ⟨#[0, 1, 2, 2, 3, 3, 3, 3, 4, 4, 4, 4, 4, 4, 4, 4, 5, 5, 5, 5, 5, 5, 5, 5, 5, 5, 5, 5, 5, 5, 5, 5, 6, 6, 6, 6, 6, 6, 6, 6, 6, 6, 6, 6, 6, 6, 6, 6, 6, 6, 6, 6, 6, 6, 6, 6, 6, 6, 6, 6, 6, 6, 6, 6, 7, 7, 7, 7, 7, 7, 7, 7, 7, 7, 7, 7, 7, 7, 7, 7, 7, 7, 7, 7, 7, 7, 7, 7, 7, 7, 7, 7, 7, 7, 7, 7, 7, 7, 7, 7, 7, 7, 7, 7, 7, 7, 7, 7, 7, 7, 7, 7, 7, 7, 7, 7, 7, 7, 7, 7, 7, 7, 7, 7, 7, 7, 7, 7, 8, 8, 8, 8, 8, 8, 8, 8, 8, 8, 8, 8, 8, 8, 8, 8, 8, 8, 8, 8, 8, 8, 8, 8, 8, 8, 8, 8, 8, 8, 8, 8, 8, 8, 8, 8, 8, 8, 8, 8, 8, 8, 8, 8, 8, 8, 8, 8, 8, 8, 8, 8, 8, 8, 8, 8, 8, 8, 8, 8, 8, 8, 8, 8, 8, 8, 8, 8, 8, 8, 8, 8, 8, 8, 8, 8, 8, 8, 8, 8, 8, 8, 8, 8, 8, 8, 8, 8, 8, 8, 8, 8, 8, 8, 8, 8, 8, 8, 8, 8, 8, 8, 8, 8, 8, 8, 8, 8, 8, 8, 8, 8, 8, 8, 8, 8, 8, 8, 8, 8, 8, 8, 8, 8, 8, 8, 8, 8]⟩)) (.t 21)⟩,
  ⟨some 23, none, .conv .i64 (.t 22)⟩,
  ⟨some 24, none, .bin .add (.t 19) (.t 23)⟩,
  ⟨some 2, none, .mov (.t 24)⟩])
  (.ret)
def c1_math_bits_Len64 : C :=
 .seq (.seq (.ops [⟨some 13, none, .mov (.t 0)⟩,
  ⟨some 14, none, .bin .geq (.t 13) (.c (.int .u64 256))⟩])
  (.cond (.t 14)
  (.seq (.ops [⟨some 15, none, .mov (.t 0)⟩,
  ⟨some 16, none, .bin .shr (.t 15) (.c (.int .u64 8))⟩,
  ⟨some 0, none, .mov (.t 16)⟩])
  (.ops [⟨some 17, none, .mov (.t 2)⟩,
  ⟨some 18, none, .bin .add (.t 17) (.c (.int .i64 8))⟩,
  ⟨some 2, none, .mov (.t 18)⟩]))
  (.skip)))
  (c0_math_bits_Len64)
def c2_math_bits_Len64 : C :=
 .seq (.seq (.ops [⟨some 7, none, .mov (.t 0)⟩,
  ⟨some 8, none, .bin .geq (.t 7) (.c (.int .u64 65536))⟩])
  (.cond (.t 8)
  (.seq (.ops [⟨some 9, none, .mov (.t 0)⟩,
  ⟨some 10, none, .bin .shr (.t 9) (.c (.int .u64 16))⟩,
  ⟨some 0, none, .mov (.t 10)⟩])
  (.ops [⟨some 11, none, .mov (.t 2)⟩,
  ⟨some 12, none, .bin .add (.t 11) (.c (.int .i64 16))⟩,
  ⟨some 2, none, .mov (.t 12)⟩]))
  (.skip)))
  (c1_math_bits_Len64)
def c3_math_bits_Len64 : C :=
 .seq (.seq (.ops [⟨some 3, none, .mov (.t 0)⟩,
  ⟨some 4, none, .bin .geq (.t 3) (.c (.int .u64 4294967296))⟩])
  (.cond (.t 4)
  (.seq (.ops [⟨some 5, none, .mov (.t 0)⟩,
  ⟨some 6, none, .bin .shr (.t 5) (.c (.int .u64 32))⟩,
  ⟨some 0, none, .mov (.t 6)⟩])
  (.ops [⟨some 2, none, .mov (.c (.int .i64 32))⟩]))
  (.skip)))
  (c2_math_bits_Len64)
def c_math_bits_Len64 : C :=
 .seq (.ops [⟨some 2, none, .mov (.c (.int .i64 0))⟩])
  (c3_math_bits_Len64)
def f_math_bits_Len64 : F := ⟨c_math_bits_Len64, [.t 2], some []⟩
theorem h_math_bits_Len64 : compF Tryz.prog (compAny Tryz.prog) n_math_bits_Len64 = some (f_math_bits_Len64.body, f_math_bits_Len64.res) := by kernel_rfl
def c0_slices_IndexFunc_ir_Op_ir_Op : C :=
 .seq (.ops [⟨some 11, none, .mov (.t 1)⟩,
  ⟨some 12, none, .mov (.t 0)⟩,
  ⟨some 13, none, .mov (.t 5)⟩,
  ⟨some 14, none, .ia 5 (.t 12) (.t 13)⟩,
  ⟨some 15, none, .ldn 5 (.t 14)⟩,
  ⟨some 16, none, .callv (.t 11) [(.t 15)]⟩])
  (.cond (.t 16)
  (.seq (.ops [⟨some 17, none, .mov (.t 5)⟩,
  ⟨some 4, none, .mov (.t 17)⟩])
  (.ret))
  (.skip))
def c1_slices_IndexFunc_ir_Op_ir_Op : C :=
 .seq (.ops [⟨some 9, none, .bin .lss (.t 8) (.t 7)⟩])
  (.seq (.cond (.t 9)
  (.skip)
  (.exit 0))
  (.seq (.block 1
  (.seq (.ops [⟨some 10, none, .mov (.t 8)⟩,
  ⟨some 5, none, .mov (.t 10)⟩])
  (c0_slices_IndexFunc_ir_Op_ir_Op)))
  (.ops [⟨some 18, none, .bin .add (.t 8) (.c (.int .i64 1))⟩,
  ⟨some 8, none, .mov (.t 18)⟩])))
def c_slices_IndexFunc_ir_Op_ir_Op : C :=
 .seq (.ops [⟨some 4, none, .mov (.c (.int .i64 0))⟩])
  (.seq (.seq (.ops [⟨some 6, none, .mov (.t 0)⟩,
  ⟨some 7, none, .len 1 (.t 6)⟩,
  ⟨some 8, none, .mov (.c (.int .i64 0))⟩])
  (.block 0
  (.loop c1_slices_IndexFunc_ir_Op_ir_Op)))
  (.seq (.ops [⟨some 4, none, .mov (.c (.int .i64 (-1)))⟩])
  (.ret)))
def f_slices_IndexFunc_ir_Op_ir_Op : F := ⟨c_slices_IndexFunc_ir_Op_ir_Op, [.t 4], some []⟩
theorem h_slices_IndexFunc_ir_Op_ir_Op : compF Tryz.prog (compAny Tryz.prog) n_slices_IndexFunc_ir_Op_ir_Op = some (f_slices_IndexFunc_ir_Op_ir_Op.body, f_slices_IndexFunc_ir_Op_ir_Op.res) := by kernel_rfl
def c0_word_Mul : C :=
 .ops [⟨some 15, none, .mov (.t 0)⟩,
  ⟨some 16, none, .conv .i32 (.t 15)⟩,
  ⟨some 17, none, .conv .i64 (.t 16)⟩,
  ⟨some 18, none, .mov (.t 1)⟩,
  ⟨some 19, none, .conv .i32 (.t 18)⟩,
  ⟨some 20, none, .conv .i64 (.t 19)⟩,
  ⟨some 21, none, .bin .mul (.t 17) (.t 20)⟩,
  ⟨some 22, none, .conv .u64 (.t 21)⟩,
  ⟨some 8, none, .mov (.t 22)⟩]
def c1_word_Mul : C :=
 .seq (.seq (.ops [⟨some 14, none, .mov (.t 2)⟩])
  (.cond (.t 14)
  (c0_word_Mul)
  (.skip)))
  (.seq (.ops [⟨some 23, none, .mov (.t 8)⟩,
  ⟨some 24, none, .bin .shr (.t 23) (.c (.int .u64 32))⟩,
  ⟨some 25, none, .conv .u32 (.t 24)⟩,
  ⟨some 26, none, .mov (.t 8)⟩,
  ⟨some 27, none, .conv .u32 (.t 26)⟩,
  ⟨some 6, none, .mov (.t 25)⟩,
  ⟨some 7, none, .mov (.t 27)⟩])
  (.ret))
def c_word_Mul : C :=
 .seq (.ops [⟨some 6, none, .mov (.c (.int .u32 0))⟩,
  ⟨some 7, none, .mov (.c (.int .u32 0))⟩])
  (.seq (.ops [⟨some 9, none, .mov (.t 0)⟩,
  ⟨some 10, none, .conv .u64 (.t 9)⟩,
  ⟨some 11, none, .mov (.t 1)⟩,
  ⟨some 12, none, .conv .u64 (.t 11)⟩,
  ⟨some 13, none, .bin .mul (.t 10) (.t 12)⟩,
  ⟨some 8, none, .mov (.t 13)⟩])
  (c1_word_Mul))
def f_word_Mul : F := ⟨c_word_Mul, [.t 6, .t 7], some []⟩
theorem h_word_Mul : compF Tryz.prog (compAny Tryz.prog) n_word_Mul = some (f_word_Mul.body, f_word_Mul.res) := by kernel_rfl
def c0_word_Div : C :=
 .seq (.any 0 [.op 0 ⟨some 17, none, .mov (.t 0)⟩,
  .op 1 ⟨some 18, none, .mov (.t 1)⟩,
  .op 2 ⟨some 19, none, .bin .quo (.t 17) (.t 18)⟩,
  .op 3 ⟨some 20, none, .mov (.t 0)⟩,
  .op 4 ⟨some 21, none, .mov (.t 1)⟩,
  .op 5 ⟨some 22, none, .bin .rem (.t 20) (.t 21)⟩,
  .op 6 ⟨some 6, none, .mov (.t 19)⟩,
  .op 7 ⟨some 7, none, .mov (.t 22)⟩])
  (.ret)
def c1_word_Div : C :=
 .cond (.t 10)
  (.seq (.ops [⟨some 13, none, .mov (.t 0)⟩,
  ⟨some 6, none, .mov (.c (.int .u32 4294967295))⟩,
  ⟨some 7, none, .mov (.t 13)⟩])
  (.ret))
  (.seq (.ops [⟨some 15, none, .mov (.t 2)⟩,
  ⟨some 16, none, .un .not (.t 15)⟩,
  ⟨some 14, none, .mov (.t 16)⟩])
  (.cond (.t 14)
  (c0_word_Div)
  (.skip)))
def c2_word_Div : C :=
 .seq (.any 0 [.op 0 ⟨some 29, none, .mov (.t 8)⟩,
  .op 1 ⟨some 30, none, .mov (.t 9)⟩,
  .op 2 ⟨some 31, none, .bin .quo (.t 29) (.t 30)⟩,
  .op 3 ⟨some 32, none, .conv .u32 (.t 31)⟩,
  .op 4 ⟨some 33, none, .mov (.t 8)⟩,
  .op 5 ⟨some 34, none, .mov (.t 9)⟩,
  .op 6 ⟨some 35, none, .bin .rem (.t 33) (.t 34)⟩,
  .op 7 ⟨some 36, none, .conv .u32 (.t 35)⟩,
  .op 8 ⟨some 6, none, .mov (.t 32)⟩,
  .op 9 ⟨some 7, none, .mov (.t 36)⟩])
  (.ret)
def c3_word_Div : C :=
 .seq (.block 0
  (.seq (.ops [⟨some 11, none, .mov (.t 1)⟩,
  ⟨some 12, none, .bin .eql (.t 11) (.c (.int .u32 0))⟩,
  ⟨some 10, none, .mov (.t 12)⟩])
  (c1_word_Div)))
  (.seq (.ops [⟨some 23, none, .mov (.t 0)⟩,
  ⟨some 24, none, .conv .i32 (.t 23)⟩,
  ⟨some 25, none, .conv .i64 (.t 24)⟩,
  ⟨some 26, none, .mov (.t 1)⟩,
  ⟨some 27, none, .conv .i32 (.t 26)⟩,
  ⟨some 28, none, .conv .i64 (.t 27)⟩,
  ⟨some 8, none, .mov (.t 25)⟩,
  ⟨some 9, none, .mov (.t 28)⟩])
  (c2_word_Div))
def c_word_Div : C :=
 .seq (.ops [⟨some 6, none, .mov (.c (.int .u32 0))⟩,
  ⟨some 7, none, .mov (.c (.int .u32 0))⟩])
  (c3_word_Div)
def f_word_Div : F := ⟨c_word_Div, [.t 6, .t 7], some []⟩
theorem h_word_Div : compF Tryz.prog (compAny Tryz.prog) n_word_Div = some (f_word_Div.body, f_word_Div.res) := by kernel_rfl
def c0_ir_of : C :=
 .seq (.ops [⟨some 66, none, .mov (.t 1)⟩,
  ⟨some 67, none, .mov (.t 2)⟩,
  ⟨some 68, none, .fa 0 (.t 3)⟩,
  ⟨some 69, none, .ld (.t 68)⟩,
  ⟨some 70, none, .bin .eql (.t 69) (.c (.int .i64 12))⟩,
  ⟨some 71, none, .call n_word_Less [(.t 66), (.t 67), (.t 70)]⟩,
  ⟨some 72, none, .call n_ir_one [(.t 71)]⟩,
  ⟨some 6, none, .mov (.t 72)⟩])
  (.ret)
def c1_ir_of : C :=
 .cond (.t 78)
  (.seq (.ops [⟨some 80, none, .mov (.t 1)⟩,
  ⟨some 81, none, .call n_word_Clz [(.t 80)]⟩,
  ⟨some 82, none, .conv .u32 (.t 81)⟩,
  ⟨some 6, none, .mov (.t 82)⟩])
  (.ret))
  (.seq (.ops [⟨some 84, none, .bin .eql (.t 8) (.c (.int .i64 16))⟩,
  ⟨some 83, none, .mov (.t 84)⟩])
  (.cond (.t 83)
  (.seq (.ops [⟨some 85, none, .mov (.t 1)⟩,
  ⟨some 86, none, .call n_word_Clo [(.t 85)]⟩,
  ⟨some 87, none, .conv .u32 (.t 86)⟩,
  ⟨some 6, none, .mov (.t 87)⟩])
  (.ret))
  (.skip)))
def c2_ir_of : C :=
 .seq (.ops [⟨some 74, none, .bin .eql (.t 8) (.c (.int .i64 14))⟩,
  ⟨some 73, none, .mov (.t 74)⟩])
  (.cond (.t 73)
  (.seq (.ops [⟨some 75, none, .mov (.t 1)⟩,
  ⟨some 76, none, .mov (.t 2)⟩,
  ⟨some 77, none, .bin .mul (.t 75) (.t 76)⟩,
  ⟨some 6, none, .mov (.t 77)⟩])
  (.ret))
  (.seq (.ops [⟨some 79, none, .bin .eql (.t 8) (.c (.int .i64 15))⟩,
  ⟨some 78, none, .mov (.t 79)⟩])
  (c1_ir_of)))
def c3_ir_of : C :=
 .cond (.t 56)
  (.seq (.ops [⟨some 58, none, .mov (.t 1)⟩,
  ⟨some 59, none, .mov (.t 2)⟩,
  ⟨some 60, none, .bin .and (.t 59) (.c (.int .u32 31))⟩,
  ⟨some 61, none, .conv .i64 (.t 60)⟩,
  ⟨some 62, none, .call n_word_Sar [(.t 58), (.t 61)]⟩,
  ⟨some 6, none, .mov (.t 62)⟩])
  (.ret))
  (.seq (.seq (.ops [⟨some 64, none, .bin .eql (.t 8) (.c (.int .i64 12))⟩,
  ⟨some 63, none, .mov (.t 64)⟩])
  (.cond (.t 63)
  (.skip)
  (.ops [⟨some 65, none, .bin .eql (.t 8) (.c (.int .i64 13))⟩,
  ⟨some 63, none, .mov (.t 65)⟩])))
  (.cond (.t 63)
  (c0_ir_of)
  (c2_ir_of)))
def c4_ir_of : C :=
 .cond (.t 50)
  (.seq (.ops [⟨some 52, none, .mov (.t 1)⟩,
  ⟨some 53, none, .mov (.t 2)⟩,
  ⟨some 54, none, .bin .and (.t 53) (.c (.int .u32 31))⟩,
  ⟨some 55, none, .bin .shr (.t 52) (.t 54)⟩,
  ⟨some 6, none, .mov (.t 55)⟩])
  (.ret))
  (.seq (.ops [⟨some 57, none, .bin .eql (.t 8) (.c (.int .i64 11))⟩,
  ⟨some 56, none, .mov (.t 57)⟩])
  (c3_ir_of))
def c5_ir_of : C :=
 .cond (.t 44)
  (.seq (.ops [⟨some 46, none, .mov (.t 1)⟩,
  ⟨some 47, none, .mov (.t 2)⟩,
  ⟨some 48, none, .bin .and (.t 47) (.c (.int .u32 31))⟩,
  ⟨some 49, none, .bin .shl (.t 46) (.t 48)⟩,
  ⟨some 6, none, .mov (.t 49)⟩])
  (.ret))
  (.seq (.ops [⟨some 51, none, .bin .eql (.t 8) (.c (.int .i64 10))⟩,
  ⟨some 50, none, .mov (.t 51)⟩])
  (c4_ir_of))
def c6_ir_of : C :=
 .cond (.t 38)
  (.seq (.ops [⟨some 40, none, .mov (.t 1)⟩,
  ⟨some 41, none, .mov (.t 2)⟩,
  ⟨some 42, none, .bin .or (.t 40) (.t 41)⟩,
  ⟨some 43, none, .un .xor (.t 42)⟩,
  ⟨some 6, none, .mov (.t 43)⟩])
  (.ret))
  (.seq (.ops [⟨some 45, none, .bin .eql (.t 8) (.c (.int .i64 9))⟩,
  ⟨some 44, none, .mov (.t 45)⟩])
  (c5_ir_of))
def c7_ir_of : C :=
 .seq (.ops [⟨some 34, none, .bin .eql (.t 8) (.c (.int .i64 7))⟩,
  ⟨some 33, none, .mov (.t 34)⟩])
  (.cond (.t 33)
  (.seq (.ops [⟨some 35, none, .mov (.t 1)⟩,
  ⟨some 36, none, .mov (.t 2)⟩,
  ⟨some 37, none, .bin .xor (.t 35) (.t 36)⟩,
  ⟨some 6, none, .mov (.t 37)⟩])
  (.ret))
  (.seq (.ops [⟨some 39, none, .bin .eql (.t 8) (.c (.int .i64 8))⟩,
  ⟨some 38, none, .mov (.t 39)⟩])
  (c6_ir_of)))
def c8_ir_of : C :=
 .cond (.t 23)
  (.seq (.ops [⟨some 25, none, .mov (.t 1)⟩,
  ⟨some 26, none, .mov (.t 2)⟩,
  ⟨some 27, none, .bin .and (.t 25) (.t 26)⟩,
  ⟨some 6, none, .mov (.t 27)⟩])
  (.ret))
  (.seq (.ops [⟨some 29, none, .bin .eql (.t 8) (.c (.int .i64 6))⟩,
  ⟨some 28, none, .mov (.t 29)⟩])
  (.cond (.t 28)
  (.seq (.ops [⟨some 30, none, .mov (.t 1)⟩,
  ⟨some 31, none, .mov (.t 2)⟩,
  ⟨some 32, none, .bin .or (.t 30) (.t 31)⟩,
  ⟨some 6, none, .mov (.t 32)⟩])
  (.ret))
  (c7_ir_of)))
def c9_ir_of : C :=
 .seq (.ops [⟨some 19, none, .bin .eql (.t 8) (.c (.int .i64 4))⟩,
  ⟨some 18, none, .mov (.t 19)⟩])
  (.cond (.t 18)
  (.seq (.ops [⟨some 20, none, .mov (.t 1)⟩,
  ⟨some 21, none, .mov (.t 2)⟩,
  ⟨some 22, none, .bin .sub (.t 20) (.t 21)⟩,
  ⟨some 6, none, .mov (.t 22)⟩])
  (.ret))
  (.seq (.ops [⟨some 24, none, .bin .eql (.t 8) (.c (.int .i64 5))⟩,
  ⟨some 23, none, .mov (.t 24)⟩])
  (c8_ir_of)))
def c10_ir_of : C :=
 .cond (.t 9)
  (.seq (.ops [⟨some 11, none, .fa 4 (.t 3)⟩,
  ⟨some 12, none, .ld (.t 11)⟩,
  ⟨some 6, none, .mov (.t 12)⟩])
  (.ret))
  (.seq (.ops [⟨some 14, none, .bin .eql (.t 8) (.c (.int .i64 3))⟩,
  ⟨some 13, none, .mov (.t 14)⟩])
  (.cond (.t 13)
  (.seq (.ops [⟨some 15, none, .mov (.t 1)⟩,
  ⟨some 16, none, .mov (.t 2)⟩,
  ⟨some 17, none, .bin .add (.t 15) (.t 16)⟩,
  ⟨some 6, none, .mov (.t 17)⟩])
  (.ret))
  (c9_ir_of)))
def c_ir_of : C :=
 .seq (.ops [⟨some 3, none, .box (.t 0)⟩,
  ⟨some 6, none, .mov (.c (.int .u32 0))⟩])
  (.seq (.seq (.ops [⟨some 7, none, .fa 0 (.t 3)⟩,
  ⟨some 8, none, .ld (.t 7)⟩])
  (.block 0
  (.seq (.ops [⟨some 10, none, .bin .eql (.t 8) (.c (.int .i64 1))⟩,
  ⟨some 9, none, .mov (.t 10)⟩])
  (c10_ir_of))))
  (.seq (.ops [⟨some 88, none, .mov (.t 1)⟩,
  ⟨some 6, none, .mov (.t 88)⟩])
  (.ret)))
def f_ir_of : F := ⟨c_ir_of, [.t 6], some []⟩
theorem h_ir_of : compF Tryz.prog (compAny Tryz.prog) n_ir_of = some (f_ir_of.body, f_ir_of.res) := by kernel_rfl
def c0_slices_siftDownOrdered_int : C :=
 .seq (.any 0 [.op 8 ⟨some 61, none, .mov (.t 0)⟩,
  .op 9 ⟨some 62, none, .mov (.t 3)⟩,
  .op 10 ⟨some 63, none, .mov (.t 9)⟩,
  .op 11 ⟨some 64, none, .bin .add (.t 62) (.t 63)⟩,
  .op 12 ⟨some 65, none, .ia 1 (.t 61) (.t 64)⟩,
  .op 13 ⟨some 66, none, .ld (.t 65)⟩,
  .op 14 ⟨some 67, none, .mov (.t 0)⟩,
  .op 15 ⟨some 68, none, .mov (.t 3)⟩,
  .op 16 ⟨some 69, none, .mov (.t 8)⟩,
  .op 17 ⟨some 70, none, .bin .add (.t 68) (.t 69)⟩,
  .op 18 ⟨some 71, none, .ia 1 (.t 67) (.t 70)⟩,
  .op 19 ⟨some 72, none, .ld (.t 71)⟩,
  .op 0 ⟨some 53, none, .mov (.t 0)⟩,
  .op 1 ⟨some 54, none, .mov (.t 3)⟩,
  .op 2 ⟨some 55, none, .mov (.t 8)⟩,
  .op 3 ⟨some 56, none, .bin .add (.t 54) (.t 55)⟩,
  .op 20 ⟨some 73, none, .ia 1 (.t 53) (.t 56)⟩,
  .op 21 ⟨none, none, .st (.t 73) (.t 66)⟩,
  .op 4 ⟨some 57, none, .mov (.t 0)⟩,
  .op 5 ⟨some 58, none, .mov (.t 3)⟩,
  .op 6 ⟨some 59, none, .mov (.t 9)⟩,
  .op 7 ⟨some 60, none, .bin .add (.t 58) (.t 59)⟩,
  .op 22 ⟨some 74, none, .ia 1 (.t 57) (.t 60)⟩,
  .op 23 ⟨none, none, .st (.t 74) (.t 72)⟩])
  (.ops [⟨some 75, none, .mov (.t 9)⟩,
  ⟨some 8, none, .mov (.t 75)⟩])
def c1_slices_siftDownOrdered_int : C :=
 .seq (.seq (.any 0 [.op 0 ⟨some 39, none, .mov (.t 0)⟩,
  .op 1 ⟨some 40, none, .mov (.t 3)⟩,
  .op 2 ⟨some 41, none, .mov (.t 8)⟩,
  .op 3 ⟨some 42, none, .bin .add (.t 40) (.t 41)⟩,
  .op 4 ⟨some 43, none, .ia 1 (.t 39) (.t 42)⟩,
  .op 5 ⟨some 44, none, .ld (.t 43)⟩,
  .op 6 ⟨some 45, none, .mov (.t 0)⟩,
  .op 7 ⟨some 46, none, .mov (.t 3)⟩,
  .op 8 ⟨some 47, none, .mov (.t 9)⟩,
  .op 9 ⟨some 48, none, .bin .add (.t 46) (.t 47)⟩,
  .op 10 ⟨some 49, none, .ia 1 (.t 45) (.t 48)⟩,
  .op 11 ⟨some 50, none, .ld (.t 49)⟩,
  .op 12 ⟨some 51, none, .call n_cmp_Less_int [(.t 44), (.t 50)]⟩,
  .op 13 ⟨some 52, none, .un .not (.t 51)⟩])
  (.cond (.t 52)
  (.ret)
  (.skip)))
  (c0_slices_siftDownOrdered_int)
def c2_slices_siftDownOrdered_int : C :=
 .seq (.seq (.any 0 [.op 0 ⟨some 17, none, .mov (.t 9)⟩,
  .op 1 ⟨some 18, none, .bin .add (.t 17) (.c (.int .i64 1))⟩,
  .op 2 ⟨some 19, none, .mov (.t 2)⟩,
  .op 3 ⟨some 20, none, .bin .lss (.t 18) (.t 19)⟩,
  .op 4 ⟨some 21, none, .mov (.t 20)⟩,
  .op 5 ⟨some 22, some (21, true), .mov (.t 0)⟩,
  .op 6 ⟨some 23, some (21, true), .mov (.t 3)⟩,
  .op 7 ⟨some 24, some (21, true), .mov (.t 9)⟩,
  .op 8 ⟨some 25, some (21, true), .bin .add (.t 23) (.t 24)⟩,
  .op 9 ⟨some 26, some (21, true), .ia 1 (.t 22) (.t 25)⟩,
  .op 10 ⟨some 27, some (21, true), .ld (.t 26)⟩,
  .op 11 ⟨some 28, some (21, true), .mov (.t 0)⟩,
  .op 12 ⟨some 29, some (21, true), .mov (.t 3)⟩,
  .op 13 ⟨some 30, some (21, true), .mov (.t 9)⟩,
  .op 14 ⟨some 31, some (21, true), .bin .add (.t 29) (.t 30)⟩,
  .op 15 ⟨some 32, some (21, true), .bin .add (.t 31) (.c (.int .i64 1))⟩,
  .op 16 ⟨some 33, some (21, true), .ia 1 (.t 28) (.t 32)⟩,
  .op 17 ⟨some 34, some (21, true), .ld (.t 33)⟩,
  .op 18 ⟨some 35, some (21, true), .call n_cmp_Less_int [(.t 27), (.t 34)]⟩,
  .op 19 ⟨some 36, none, .pick (.t 21) (.t 35) (.c (.bool false))⟩])
  (.cond (.t 36)
  (.ops [⟨some 37, none, .mov (.t 9)⟩,
  ⟨some 38, none, .bin .add (.t 37) (.c (.int .i64 1))⟩,
  ⟨some 9, none, .mov (.t 38)⟩])
  (.skip)))
  (c1_slices_siftDownOrdered_int)
def c3_slices_siftDownOrdered_int : C :=
 .block 1
  (.seq (.ops [⟨some 11, none, .mov (.t 8)⟩,
  ⟨some 12, none, .bin .mul (.c (.int .i64 2)) (.t 11)⟩,
  ⟨some 13, none, .bin .add (.t 12) (.c (.int .i64 1))⟩,
  ⟨some 9, none, .mov (.t 13)⟩])
  (.seq (.seq (.ops [⟨some 14, none, .mov (.t 9)⟩,
  ⟨some 15, none, .mov (.t 2)⟩,
  ⟨some 16, none, .bin .geq (.t 14) (.t 15)⟩])
  (.cond (.t 16)
  (.exit 0)
  (.skip)))
  (c2_slices_siftDownOrdered_int)))
def c_slices_siftDownOrdered_int : C :=
 .seq (.ops [⟨some 10, none, .mov (.t 1)⟩,
  ⟨some 8, none, .mov (.t 10)⟩])
  (.block 0
  (.loop c3_slices_siftDownOrdered_int))
def f_slices_siftDownOrdered_int : F := ⟨c_slices_siftDownOrdered_int, [], some []⟩
theorem h_slices_siftDownOrdered_int : compF Tryz.prog (compAny Tryz.prog) n_slices_siftDownOrdered_int = some (f_slices_siftDownOrdered_int.body, f_slices_siftDownOrdered_int.res) := by kernel_rfl
def c_slices_nextPowerOfTwo : C :=
 .seq (.ops [⟨some 2, none, .mov (.c (.int .u64 0))⟩])
  (.seq (.ops [⟨some 3, none, .mov (.t 0)⟩,
  ⟨some 4, none, .conv .u64 (.t 3)⟩,
  ⟨some 5, none, .call n_math_bits_Len [(.t 4)]⟩,
  ⟨some 6, none, .bin .shl (.c (.int .u64 1)) (.t 5)⟩,
  ⟨some 2, none, .mov (.t 6)⟩])
  (.ret))
def f_slices_nextPowerOfTwo : F := ⟨c_slices_nextPowerOfTwo, [.t 2], some []⟩
theorem h_slices_nextPowerOfTwo : compF Tryz.prog (compAny Tryz.prog) n_slices_nextPowerOfTwo = some (f_slices_nextPowerOfTwo.body, f_slices_nextPowerOfTwo.res) := by kernel_rfl
def c0_slices_xorshift_Next : C :=
 .seq (.any 0 [.op 0 ⟨some 21, none, .mov (.t 0)⟩,
  .op 1 ⟨some 22, none, .nilc (.t 21)⟩,
  .op 2 ⟨some 23, none, .ld (.t 22)⟩,
  .op 3 ⟨some 24, none, .mov (.t 0)⟩,
  .op 4 ⟨some 25, none, .nilc (.t 24)⟩,
  .op 5 ⟨some 26, none, .ld (.t 25)⟩,
  .op 6 ⟨some 27, none, .bin .shl (.t 26) (.c (.int .u64 17))⟩,
  .op 7 ⟨some 28, none, .bin .xor (.t 23) (.t 27)⟩,
  .op 8 ⟨some 29, none, .nilc (.t 21)⟩,
  .op 9 ⟨none, none, .st (.t 29) (.t 28)⟩])
  (.seq (.ops [⟨some 30, none, .mov (.t 0)⟩,
  ⟨some 31, none, .nilc (.t 30)⟩,
  ⟨some 32, none, .ld (.t 31)⟩,
  ⟨some 2, none, .mov (.t 32)⟩])
  (.ret))
def c1_slices_xorshift_Next : C :=
 .seq (.any 0 [.op 0 ⟨some 12, none, .mov (.t 0)⟩,
  .op 1 ⟨some 13, none, .nilc (.t 12)⟩,
  .op 2 ⟨some 14, none, .ld (.t 13)⟩,
  .op 3 ⟨some 15, none, .mov (.t 0)⟩,
  .op 4 ⟨some 16, none, .nilc (.t 15)⟩,
  .op 5 ⟨some 17, none, .ld (.t 16)⟩,
  .op 6 ⟨some 18, none, .bin .shr (.t 17) (.c (.int .u64 7))⟩,
  .op 7 ⟨some 19, none, .bin .xor (.t 14) (.t 18)⟩,
  .op 8 ⟨some 20, none, .nilc (.t 12)⟩,
  .op 9 ⟨none, none, .st (.t 20) (.t 19)⟩])
  (c0_slices_xorshift_Next)
def c2_slices_xorshift_Next : C :=
 .seq (.any 0 [.op 0 ⟨some 3, none, .mov (.t 0)⟩,
  .op 1 ⟨some 4, none, .nilc (.t 3)⟩,
  .op 2 ⟨some 5, none, .ld (.t 4)⟩,
  .op 3 ⟨some 6, none, .mov (.t 0)⟩,
  .op 4 ⟨some 7, none, .nilc (.t 6)⟩,
  .op 5 ⟨some 8, none, .ld (.t 7)⟩,
  .op 6 ⟨some 9, none, .bin .shl (.t 8) (.c (.int .u64 13))⟩,
  .op 7 ⟨some 10, none, .bin .xor (.t 5) (.t 9)⟩,
  .op 8 ⟨some 11, none, .nilc (.t 3)⟩,
  .op 9 ⟨none, none, .st (.t 11) (.t 10)⟩])
  (c1_slices_xorshift_Next)
def c_slices_xorshift_Next : C :=
 .seq (.ops [⟨some 2, none, .mov (.c (.int .u64 0))⟩])
  (c2_slices_xorshift_Next)
def f_slices_xorshift_Next : F := ⟨c_slices_xorshift_Next, [.t 2], some []⟩
theorem h_slices_xorshift_Next : compF Tryz.prog (compAny Tryz.prog) n_slices_xorshift_Next = some (f_slices_xorshift_Next.body, f_slices_xorshift_Next.res) := by kernel_rfl
def c0_slices_medianAdjacentOrdered_int : C :=
 .seq (.ops [⟨some 7, none, .mov (.t 0)⟩,
  ⟨some 8, none, .mov (.t 1)⟩,
  ⟨some 9, none, .bin .sub (.t 8) (.c (.int .i64 1))⟩,
  ⟨some 10, none, .mov (.t 1)⟩,
  ⟨some 11, none, .mov (.t 1)⟩,
  ⟨some 12, none, .bin .add (.t 11) (.c (.int .i64 1))⟩,
  ⟨some 13, none, .mov (.t 2)⟩,
  ⟨some 14, none, .call n_slices_medianOrdered_int [(.t 7), (.t 9), (.t 10), (.t 12), (.t 13)]⟩,
  ⟨some 6, none, .mov (.t 14)⟩])
  (.ret)
def c_slices_medianAdjacentOrdered_int : C :=
 .seq (.ops [⟨some 6, none, .mov (.c (.int .i64 0))⟩])
  (c0_slices_medianAdjacentOrdered_int)
def f_slices_medianAdjacentOrdered_int : F := ⟨c_slices_medianAdjacentOrdered_int, [.t 6], some []⟩
theorem h_slices_medianAdjacentOrdered_int : compF Tryz.prog (compAny Tryz.prog) n_slices_medianAdjacentOrdered_int = some (f_slices_medianAdjacentOrdered_int.body, f_slices_medianAdjacentOrdered_int.res) := by kernel_rfl
def c0_slices_medianOrdered_int : C :=
 .seq (.ops [⟨some 28, none, .mov (.t 0)⟩,
  ⟨some 29, none, .mov (.t 1)⟩,
  ⟨some 30, none, .mov (.t 2)⟩,
  ⟨some 31, none, .mov (.t 4)⟩,
  ⟨some 32, none, .call n_slices_order2Ordered_int [(.t 28), (.t 29), (.t 30), (.t 31)]⟩,
  ⟨some 27, none, .mov (.t 32)⟩,
  ⟨some 33, none, .ext (.t 27) 0⟩,
  ⟨some 34, none, .ext (.t 27) 1⟩,
  ⟨some 1, none, .mov (.t 33)⟩,
  ⟨some 2, none, .mov (.t 34)⟩])
  (.seq (.ops [⟨some 35, none, .mov (.t 2)⟩,
  ⟨some 10, none, .mov (.t 35)⟩])
  (.ret))
def c1_slices_medianOrdered_int : C :=
 .seq (.ops [⟨some 20, none, .mov (.t 0)⟩,
  ⟨some 21, none, .mov (.t 2)⟩,
  ⟨some 22, none, .mov (.t 3)⟩,
  ⟨some 23, none, .mov (.t 4)⟩,
  ⟨some 24, none, .call n_slices_order2Ordered_int [(.t 20), (.t 21), (.t 22), (.t 23)]⟩,
  ⟨some 19, none, .mov (.t 24)⟩,
  ⟨some 25, none, .ext (.t 19) 0⟩,
  ⟨some 26, none, .ext (.t 19) 1⟩,
  ⟨some 2, none, .mov (.t 25)⟩,
  ⟨some 3, none, .mov (.t 26)⟩])
  (c0_slices_medianOrdered_int)
def c2_slices_medianOrdered_int : C :=
 .seq (.ops [⟨some 12, none, .mov (.t 0)⟩,
  ⟨some 13, none, .mov (.t 1)⟩,
  ⟨some 14, none, .mov (.t 2)⟩,
  ⟨some 15, none, .mov (.t 4)⟩,
  ⟨some 16, none, .call n_slices_order2Ordered_int [(.t 12), (.t 13), (.t 14), (.t 15)]⟩,
  ⟨some 11, none, .mov (.t 16)⟩,
  ⟨some 17, none, .ext (.t 11) 0⟩,
  ⟨some 18, none, .ext (.t 11) 1⟩,
  ⟨some 1, none, .mov (.t 17)⟩,
  ⟨some 2, none, .mov (.t 18)⟩])
  (c1_slices_medianOrdered_int)
def c_slices_medianOrdered_int : C :=
 .seq (.ops [⟨some 10, none, .mov (.c (.int .i64 0))⟩])
  (c2_slices_medianOrdered_int)
def f_slices_medianOrdered_int : F := ⟨c_slices_medianOrdered_int, [.t 10], some []⟩
theorem h_slices_medianOrdered_int : compF Tryz.prog (compAny Tryz.prog) n_slices_medianOrdered_int = some (f_slices_medianOrdered_int.body, f_slices_medianOrdered_int.res) := by kernel_rfl
end Go.Proofs.YtmgoleiafiffoaaGreat.Cd

set_option maxRecDepth 100000
set_option linter.defProp false
namespace Go.Proofs.YtmgoleiafiffoaaGreat.Cd
open Go Go.Dx
def c_cmp_isNaN_int : C :=
 .seq (.ops [⟨some 2, none, .mov (.c (.bool false))⟩])
  (.seq (.ops [⟨some 3, none, .mov (.t 0)⟩,
  ⟨some 4, none, .mov (.t 0)⟩,
  ⟨some 5, none, .bin .neq (.t 3) (.t 4)⟩,
  ⟨some 2, none, .mov (.t 5)⟩])
  (.ret))
def f_cmp_isNaN_int : F := ⟨c_cmp_isNaN_int, [.t 2], some []⟩
theorem h_cmp_isNaN_int : compF Tryz.prog (compAny Tryz.prog) n_cmp_isNaN_int = some (f_cmp_isNaN_int.body, f_cmp_isNaN_int.res) := by kernel_rfl
def c_ir_one : C :=
 .seq (.ops [⟨some 2, none, .mov (.c (.int .u32 0))⟩])
  (.seq (.seq (.ops [⟨some 3, none, .mov (.t 0)⟩])
  (.cond (.t 3)
  (.seq (.ops [⟨some 2, none, .mov (.c (.int .u32 1))⟩])
  (.ret))
  (.skip)))
  (.seq (.ops [⟨some 2, none, .mov (.c (.int .u32 0))⟩])
  (.ret)))
def f_ir_one : F := ⟨c_ir_one, [.t 2], some []⟩
theorem h_ir_one : compF Tryz.prog (compAny Tryz.prog) n_ir_one = some (f_ir_one.body, f_ir_one.res) := by kernel_rfl
def c0_word_Less : C :=
 .seq (.seq (.ops [⟨some 7, none, .mov (.t 2)⟩])
  (.cond (.t 7)
  (.seq (.ops [⟨some 8, none, .mov (.t 0)⟩,
  ⟨some 9, none, .conv .i32 (.t 8)⟩,
  ⟨some 10, none, .mov (.t 1)⟩,
  ⟨some 11, none, .conv .i32 (.t 10)⟩,
  ⟨some 12, none, .bin .lss (.t 9) (.t 11)⟩,
  ⟨some 6, none, .mov (.t 12)⟩])
  (.ret))
  (.skip)))
  (.seq (.ops [⟨some 13, none, .mov (.t 0)⟩,
  ⟨some 14, none, .mov (.t 1)⟩,
  ⟨some 15, none, .bin .lss (.t 13) (.t 14)⟩,
  ⟨some 6, none, .mov (.t 15)⟩])
  (.ret))
def c_word_Less : C :=
 .seq (.ops [⟨some 6, none, .mov (.c (.bool false))⟩])
  (c0_word_Less)
def f_word_Less : F := ⟨c_word_Less, [.t 6], some []⟩
theorem h_word_Less : compF Tryz.prog (compAny Tryz.prog) n_word_Less = some (f_word_Less.body, f_word_Less.res) := by kernel_rfl
def c_word_Clz : C :=
 .seq (.ops [⟨some 2, none, .mov (.c (.int .i64 0))⟩])
  (.seq (.ops [⟨some 3, none, .mov (.t 0)⟩,
  ⟨some 4, none, .call n_math_bits_LeadingZeros32 [(.t 3)]⟩,
  ⟨some 2, none, .mov (.t 4)⟩])
  (.ret))
def f_word_Clz : F := ⟨c_word_Clz, [.t 2], some []⟩
theorem h_word_Clz : compF Tryz.prog (compAny Tryz.prog) n_word_Clz = some (f_word_Clz.body, f_word_Clz.res) := by kernel_rfl
def c_word_Clo : C :=
 .seq (.ops [⟨some 2, none, .mov (.c (.int .i64 0))⟩])
  (.seq (.ops [⟨some 3, none, .mov (.t 0)⟩,
  ⟨some 4, none, .un .xor (.t 3)⟩,
  ⟨some 5, none, .call n_math_bits_LeadingZeros32 [(.t 4)]⟩,
  ⟨some 2, none, .mov (.t 5)⟩])
  (.ret))
def f_word_Clo : F := ⟨c_word_Clo, [.t 2], some []⟩
theorem h_word_Clo : compF Tryz.prog (compAny Tryz.prog) n_word_Clo = some (f_word_Clo.body, f_word_Clo.res) := by kernel_rfl
def c0_slices_order2Ordered_int : C :=
 .seq (.ops [⟨some 19, none, .mov (.t 3)⟩,
  ⟨some 20, none, .nilc (.t 19)⟩,
  ⟨some 21, none, .ld (.t 20)⟩,
  ⟨some 22, none, .bin .add (.t 21) (.c (.int .i64 1))⟩,
  ⟨some 23, none, .nilc (.t 19)⟩,
  ⟨none, none, .st (.t 23) (.t 22)⟩])
  (.seq (.ops [⟨some 24, none, .mov (.t 2)⟩,
  ⟨some 25, none, .mov (.t 1)⟩,
  ⟨some 8, none, .mov (.t 24)⟩,
  ⟨some 9, none, .mov (.t 25)⟩])
  (.ret))
def c1_slices_order2Ordered_int : C :=
 .seq (.seq (.any 0 [.op 0 ⟨some 10, none, .mov (.t 0)⟩,
  .op 1 ⟨some 11, none, .mov (.t 2)⟩,
  .op 2 ⟨some 12, none, .ia 1 (.t 10) (.t 11)⟩,
  .op 3 ⟨some 13, none, .ld (.t 12)⟩,
  .op 4 ⟨some 14, none, .mov (.t 0)⟩,
  .op 5 ⟨some 15, none, .mov (.t 1)⟩,
  .op 6 ⟨some 16, none, .ia 1 (.t 14) (.t 15)⟩,
  .op 7 ⟨some 17, none, .ld (.t 16)⟩,
  .op 8 ⟨some 18, none, .call n_cmp_Less_int [(.t 13), (.t 17)]⟩])
  (.cond (.t 18)
  (c0_slices_order2Ordered_int)
  (.skip)))
  (.seq (.ops [⟨some 26, none, .mov (.t 1)⟩,
  ⟨some 27, none, .mov (.t 2)⟩,
  ⟨some 8, none, .mov (.t 26)⟩,
  ⟨some 9, none, .mov (.t 27)⟩])
  (.ret))
def c_slices_order2Ordered_int : C :=
 .seq (.ops [⟨some 8, none, .mov (.c (.int .i64 0))⟩,
  ⟨some 9, none, .mov (.c (.int .i64 0))⟩])
  (c1_slices_order2Ordered_int)
def f_slices_order2Ordered_int : F := ⟨c_slices_order2Ordered_int, [.t 8, .t 9], some []⟩
theorem h_slices_order2Ordered_int : compF Tryz.prog (compAny Tryz.prog) n_slices_order2Ordered_int = some (f_slices_order2Ordered_int.body, f_slices_order2Ordered_int.res) := by kernel_rfl
def c_math_bits_LeadingZeros32 : C :=
 .seq (.ops [⟨some 2, none, .mov (.c (.int .i64 0))⟩])
  (.seq (.ops [⟨some 3, none, .mov (.t 0)⟩,
  ⟨some 4, none, .call n_math_bits_Len32 [(.t 3)]⟩,
  ⟨some 5, none, .bin .sub (.c (.int .i64 32)) (.t 4)⟩,
  ⟨some 2, none, .mov (.t 5)⟩])
  (.ret))
def f_math_bits_LeadingZeros32 : F := ⟨c_math_bits_LeadingZeros32, [.t 2], some []⟩
theorem h_math_bits_LeadingZeros32 : compF Tryz.prog (compAny Tryz.prog) n_math_bits_LeadingZeros32 = some (f_math_bits_LeadingZeros32.body, f_math_bits_LeadingZeros32.res) := by kernel_rfl
end Go.Proofs.YtmgoleiafiffoaaGreat.Cd

/- The code of the functions that are reached, as the interpreter reads it. -/
set_option maxRecDepth 100000
set_option linter.defProp false
namespace Go.Proofs.YtmgoleiafiffoaaGreat.Cd
open Go Go.Dx
def T : Nat → Option Dx.Fn := ins n_pianolalaw21_BlockSame (.code f_pianolalaw21_BlockSame) <| ins n_pianolalaw21_memory (.code f_pianolalaw21_memory) <| ins n_pianolalaw21_known (.code f_pianolalaw21_known) <| ins n_pianolakeep_Image (.code f_pianolakeep_Image) <| ins n_pianolabook_Within (.code f_pianolabook_Within) <| ins n_block_Find (.code f_block_Find) <| ins n_ram_Ram_Load (.code f_ram_Ram_Load) <| ins n_ram_Ram_Store (.code f_ram_Ram_Store) <| ins n_block_Same (.code f_block_Same) <| ins n_ram_New (.code f_ram_New) <| ins n_pianolaref2_New (.code f_pianolaref2_New) <| ins n_ram_Ram_Put (.code f_ram_Ram_Put) <| ins n_pianolaref2_Ram_Put (.code f_pianolaref2_Ram_Put) <| ins n_block_Block_Page (.code f_block_Block_Page) <| ins n_pianolakeep_put (.code f_pianolakeep_put) <| ins n_pianolakeep_word (.code f_pianolakeep_word) <| ins n_pianolakeep_Code (.code f_pianolakeep_Code) <| ins n_ram_Ram_Size (.code f_ram_Ram_Size) <| ins n_decode_Of (.code f_decode_Of) <| ins n_decode_Class (.code f_decode_Class) <| ins n_block_Block_add (.code f_block_Block_add) <| ins n_ram_Ram_even (.code f_ram_Ram_even) <| ins n_ram_Ram_touch (.code f_ram_Ram_touch) <| ins n_ram_Ram_there (.code f_ram_Ram_there) <| ins n_pianolaref2_Ram_In (.code f_pianolaref2_Ram_In) <| ins n_pianolaref2_Ram_touch (.code f_pianolaref2_Ram_touch) <| ins n_pianolaref3_Word (.code f_pianolaref3_Word) <| ins n_pianolakeep_Plain (.code f_pianolakeep_Plain) <| ins n_pianolakeep_Any (.code f_pianolakeep_Any) <| ins n_pianolakeep_Inst (.code f_pianolakeep_Inst) <| ins n_decode_with (.code f_decode_with) <| ins n_decode_kind (.code f_decode_kind) <| ins n_opt_Opt (.code f_opt_Opt) <| ins n_lift_Of (.code f_lift_Of) <| ins n_pianolaref3_has (.code f_pianolaref3_has) <| ins n_pianolaref3_Right (.code f_pianolaref3_Right) <| ins n_pianolaref3_find (.code f_pianolaref3_find) <| ins n_pianolakeep_near (.code f_pianolakeep_near) <| ins n_pianolakeep_only (.code f_pianolakeep_only) <| ins n_decode_fields (.code f_decode_fields) <| ins n_decode_special (.code f_decode_special) <| ins n_decode_regimm (.code f_decode_regimm) <| ins n_decode_cop0 (.code f_decode_cop0) <| ins n_decode_special2 (.code f_decode_special2) <| ins n_decode_major (.code f_decode_major) <| ins n_opt_Dead (.code f_opt_Dead) <| ins n_opt_Fold (.code f_opt_Fold) <| ins n_lift_Is (.code f_lift_Is) <| ins n_lift_kind (.code f_lift_kind) <| ins n_alu_Into (.code f_alu_Into) <| ins n_lift_imm (.code f_lift_imm) <| ins n_pianolaref3_special (.code f_pianolaref3_special) <| ins n_pianolaref3_others (.code f_pianolaref3_others) <| ins n_pianolaref3_plain (.code f_pianolaref3_plain) <| ins n_pianolaref3_small (.code f_pianolaref3_small) <| ins n_decode_table (.code f_decode_table) <| ins n_opt_right (.code f_opt_right) <| ins n_ir_Writes (.code f_ir_Writes) <| ins n_slices_ContainsFunc_int_int (.code f_slices_ContainsFunc_int_int) <| ins n_opt_Dead_1 (.code f_opt_Dead_1) <| ins n_opt_sure (.code f_opt_sure) <| ins n_ir_Reads (.code f_ir_Reads) <| ins n_slices_Reverse_ir_Op_ir_Op (.code f_slices_Reverse_ir_Op_ir_Op) <| ins n_opt_facts_fold (.code f_opt_facts_fold) <| ins n_opt_facts_done (.code f_opt_facts_done) <| ins n_decode_Right (.code f_decode_Right) <| ins n_alu_Is (.code f_alu_Is) <| ins n_word_Sign (.code f_word_Sign) <| ins n_ir_Right (.code f_ir_Right) <| ins n_slices_IndexFunc_int_int (.code f_slices_IndexFunc_int_int) <| ins n_slices_Sort_int_int (.code f_slices_Sort_int_int) <| ins n_slices_Compact_int_int (.code f_slices_Compact_int_int) <| ins n_opt_facts_knows (.code f_opt_facts_knows) <| ins n_ir_Run (.code f_ir_Run) <| ins n_decode_put (.code f_decode_put) <| ins n_word_Sar (.code f_word_Sar) <| ins n_slices_pdqsortOrdered_int (.code f_slices_pdqsortOrdered_int) <| ins n_math_bits_Len (.code f_math_bits_Len) <| ins n_slices_ContainsFunc_ir_Op_ir_Op (.code f_slices_ContainsFunc_ir_Op_ir_Op) <| ins n_ir_Run_1 (.code f_ir_Run_1) <| ins n_ir_Regs_do (.code f_ir_Regs_do) <| ins n_slices_insertionSortOrdered_int (.code f_slices_insertionSortOrdered_int) <| ins n_slices_heapSortOrdered_int (.code f_slices_heapSortOrdered_int) <| ins n_slices_breakPatternsOrdered_int (.code f_slices_breakPatternsOrdered_int) <| ins n_slices_choosePivotOrdered_int (.code f_slices_choosePivotOrdered_int) <| ins n_slices_reverseRangeOrdered_int (.code f_slices_reverseRangeOrdered_int) <| ins n_slices_partialInsertionSortOrdered_int (.code f_slices_partialInsertionSortOrdered_int) <| ins n_cmp_Less_int (.code f_cmp_Less_int) <| ins n_slices_partitionEqualOrdered_int (.code f_slices_partitionEqualOrdered_int) <| ins n_slices_partitionOrdered_int (.code f_slices_partitionOrdered_int) <| ins n_math_bits_Len32 (.code f_math_bits_Len32) <| ins n_math_bits_Len64 (.code f_math_bits_Len64) <| ins n_slices_IndexFunc_ir_Op_ir_Op (.code f_slices_IndexFunc_ir_Op_ir_Op) <| ins n_word_Mul (.code f_word_Mul) <| ins n_word_Div (.code f_word_Div) <| ins n_ir_of (.code f_ir_of) <| ins n_slices_siftDownOrdered_int (.code f_slices_siftDownOrdered_int) <| ins n_slices_nextPowerOfTwo (.code f_slices_nextPowerOfTwo) <| ins n_slices_xorshift_Next (.code f_slices_xorshift_Next) <| ins n_slices_medianAdjacentOrdered_int (.code f_slices_medianAdjacentOrdered_int) <| ins n_slices_medianOrdered_int (.code f_slices_medianOrdered_int) <| ins n_cmp_isNaN_int (.code f_cmp_isNaN_int) <| ins n_ir_one (.code f_ir_one) <| ins n_word_Less (.code f_word_Less) <| ins n_word_Clz (.code f_word_Clz) <| ins n_word_Clo (.code f_word_Clo) <| ins n_slices_order2Ordered_int (.code f_slices_order2Ordered_int) <| ins n_math_bits_LeadingZeros32 (.code f_math_bits_LeadingZeros32) <| fun _ => none
theorem T_pianolalaw21_BlockSame : T n_pianolalaw21_BlockSame = some (.code f_pianolalaw21_BlockSame) := rfl
theorem T_pianolalaw21_memory : T n_pianolalaw21_memory = some (.code f_pianolalaw21_memory) := rfl
theorem T_pianolalaw21_known : T n_pianolalaw21_known = some (.code f_pianolalaw21_known) := rfl
theorem T_pianolakeep_Image : T n_pianolakeep_Image = some (.code f_pianolakeep_Image) := rfl
theorem T_pianolabook_Within : T n_pianolabook_Within = some (.code f_pianolabook_Within) := rfl
theorem T_block_Find : T n_block_Find = some (.code f_block_Find) := rfl
theorem T_ram_Ram_Load : T n_ram_Ram_Load = some (.code f_ram_Ram_Load) := rfl
theorem T_ram_Ram_Store : T n_ram_Ram_Store = some (.code f_ram_Ram_Store) := rfl
theorem T_block_Same : T n_block_Same = some (.code f_block_Same) := rfl
theorem T_ram_New : T n_ram_New = some (.code f_ram_New) := rfl
theorem T_pianolaref2_New : T n_pianolaref2_New = some (.code f_pianolaref2_New) := rfl
theorem T_ram_Ram_Put : T n_ram_Ram_Put = some (.code f_ram_Ram_Put) := rfl
theorem T_pianolaref2_Ram_Put : T n_pianolaref2_Ram_Put = some (.code f_pianolaref2_Ram_Put) := rfl
theorem T_block_Block_Page : T n_block_Block_Page = some (.code f_block_Block_Page) := rfl
theorem T_pianolakeep_put : T n_pianolakeep_put = some (.code f_pianolakeep_put) := rfl
theorem T_pianolakeep_word : T n_pianolakeep_word = some (.code f_pianolakeep_word) := rfl
theorem T_pianolakeep_Code : T n_pianolakeep_Code = some (.code f_pianolakeep_Code) := rfl
theorem T_ram_Ram_Size : T n_ram_Ram_Size = some (.code f_ram_Ram_Size) := rfl
theorem T_decode_Of : T n_decode_Of = some (.code f_decode_Of) := rfl
theorem T_decode_Class : T n_decode_Class = some (.code f_decode_Class) := rfl
theorem T_block_Block_add : T n_block_Block_add = some (.code f_block_Block_add) := rfl
theorem T_ram_Ram_even : T n_ram_Ram_even = some (.code f_ram_Ram_even) := rfl
theorem T_ram_Ram_touch : T n_ram_Ram_touch = some (.code f_ram_Ram_touch) := rfl
theorem T_ram_Ram_there : T n_ram_Ram_there = some (.code f_ram_Ram_there) := rfl
theorem T_pianolaref2_Ram_In : T n_pianolaref2_Ram_In = some (.code f_pianolaref2_Ram_In) := rfl
theorem T_pianolaref2_Ram_touch : T n_pianolaref2_Ram_touch = some (.code f_pianolaref2_Ram_touch) := rfl
theorem T_pianolaref3_Word : T n_pianolaref3_Word = some (.code f_pianolaref3_Word) := rfl
theorem T_pianolakeep_Plain : T n_pianolakeep_Plain = some (.code f_pianolakeep_Plain) := rfl
theorem T_pianolakeep_Any : T n_pianolakeep_Any = some (.code f_pianolakeep_Any) := rfl
theorem T_pianolakeep_Inst : T n_pianolakeep_Inst = some (.code f_pianolakeep_Inst) := rfl
theorem T_decode_with : T n_decode_with = some (.code f_decode_with) := rfl
theorem T_decode_kind : T n_decode_kind = some (.code f_decode_kind) := rfl
theorem T_opt_Opt : T n_opt_Opt = some (.code f_opt_Opt) := rfl
theorem T_lift_Of : T n_lift_Of = some (.code f_lift_Of) := rfl
theorem T_pianolaref3_has : T n_pianolaref3_has = some (.code f_pianolaref3_has) := rfl
theorem T_pianolaref3_Right : T n_pianolaref3_Right = some (.code f_pianolaref3_Right) := rfl
theorem T_pianolaref3_find : T n_pianolaref3_find = some (.code f_pianolaref3_find) := rfl
theorem T_pianolakeep_near : T n_pianolakeep_near = some (.code f_pianolakeep_near) := rfl
theorem T_pianolakeep_only : T n_pianolakeep_only = some (.code f_pianolakeep_only) := rfl
theorem T_decode_fields : T n_decode_fields = some (.code f_decode_fields) := rfl
theorem T_decode_special : T n_decode_special = some (.code f_decode_special) := rfl
theorem T_decode_regimm : T n_decode_regimm = some (.code f_decode_regimm) := rfl
theorem T_decode_cop0 : T n_decode_cop0 = some (.code f_decode_cop0) := rfl
theorem T_decode_special2 : T n_decode_special2 = some (.code f_decode_special2) := rfl
theorem T_decode_major : T n_decode_major = some (.code f_decode_major) := rfl
theorem T_opt_Dead : T n_opt_Dead = some (.code f_opt_Dead) := rfl
theorem T_opt_Fold : T n_opt_Fold = some (.code f_opt_Fold) := rfl
theorem T_lift_Is : T n_lift_Is = some (.code f_lift_Is) := rfl
theorem T_lift_kind : T n_lift_kind = some (.code f_lift_kind) := rfl
theorem T_alu_Into : T n_alu_Into = some (.code f_alu_Into) := rfl
theorem T_lift_imm : T n_lift_imm = some (.code f_lift_imm) := rfl
theorem T_pianolaref3_special : T n_pianolaref3_special = some (.code f_pianolaref3_special) := rfl
theorem T_pianolaref3_others : T n_pianolaref3_others = some (.code f_pianolaref3_others) := rfl
theorem T_pianolaref3_plain : T n_pianolaref3_plain = some (.code f_pianolaref3_plain) := rfl
theorem T_pianolaref3_small : T n_pianolaref3_small = some (.code f_pianolaref3_small) := rfl
theorem T_decode_table : T n_decode_table = some (.code f_decode_table) := rfl
theorem T_opt_right : T n_opt_right = some (.code f_opt_right) := rfl
theorem T_ir_Writes : T n_ir_Writes = some (.code f_ir_Writes) := rfl
theorem T_slices_ContainsFunc_int_int : T n_slices_ContainsFunc_int_int = some (.code f_slices_ContainsFunc_int_int) := rfl
theorem T_opt_Dead_1 : T n_opt_Dead_1 = some (.code f_opt_Dead_1) := rfl
theorem T_opt_sure : T n_opt_sure = some (.code f_opt_sure) := rfl
theorem T_ir_Reads : T n_ir_Reads = some (.code f_ir_Reads) := rfl
theorem T_slices_Reverse_ir_Op_ir_Op : T n_slices_Reverse_ir_Op_ir_Op = some (.code f_slices_Reverse_ir_Op_ir_Op) := rfl
theorem T_opt_facts_fold : T n_opt_facts_fold = some (.code f_opt_facts_fold) := rfl
theorem T_opt_facts_done : T n_opt_facts_done = some (.code f_opt_facts_done) := rfl
theorem T_decode_Right : T n_decode_Right = some (.code f_decode_Right) := rfl
theorem T_alu_Is : T n_alu_Is = some (.code f_alu_Is) := rfl
theorem T_word_Sign : T n_word_Sign = some (.code f_word_Sign) := rfl
theorem T_ir_Right : T n_ir_Right = some (.code f_ir_Right) := rfl
theorem T_slices_IndexFunc_int_int : T n_slices_IndexFunc_int_int = some (.code f_slices_IndexFunc_int_int) := rfl
theorem T_slices_Sort_int_int : T n_slices_Sort_int_int = some (.code f_slices_Sort_int_int) := rfl
theorem T_slices_Compact_int_int : T n_slices_Compact_int_int = some (.code f_slices_Compact_int_int) := rfl
theorem T_opt_facts_knows : T n_opt_facts_knows = some (.code f_opt_facts_knows) := rfl
theorem T_ir_Run : T n_ir_Run = some (.code f_ir_Run) := rfl
theorem T_decode_put : T n_decode_put = some (.code f_decode_put) := rfl
theorem T_word_Sar : T n_word_Sar = some (.code f_word_Sar) := rfl
theorem T_slices_pdqsortOrdered_int : T n_slices_pdqsortOrdered_int = some (.code f_slices_pdqsortOrdered_int) := rfl
theorem T_math_bits_Len : T n_math_bits_Len = some (.code f_math_bits_Len) := rfl
theorem T_slices_ContainsFunc_ir_Op_ir_Op : T n_slices_ContainsFunc_ir_Op_ir_Op = some (.code f_slices_ContainsFunc_ir_Op_ir_Op) := rfl
theorem T_ir_Run_1 : T n_ir_Run_1 = some (.code f_ir_Run_1) := rfl
theorem T_ir_Regs_do : T n_ir_Regs_do = some (.code f_ir_Regs_do) := rfl
theorem T_slices_insertionSortOrdered_int : T n_slices_insertionSortOrdered_int = some (.code f_slices_insertionSortOrdered_int) := rfl
theorem T_slices_heapSortOrdered_int : T n_slices_heapSortOrdered_int = some (.code f_slices_heapSortOrdered_int) := rfl
theorem T_slices_breakPatternsOrdered_int : T n_slices_breakPatternsOrdered_int = some (.code f_slices_breakPatternsOrdered_int) := rfl
theorem T_slices_choosePivotOrdered_int : T n_slices_choosePivotOrdered_int = some (.code f_slices_choosePivotOrdered_int) := rfl
theorem T_slices_reverseRangeOrdered_int : T n_slices_reverseRangeOrdered_int = some (.code f_slices_reverseRangeOrdered_int) := rfl
theorem T_slices_partialInsertionSortOrdered_int : T n_slices_partialInsertionSortOrdered_int = some (.code f_slices_partialInsertionSortOrdered_int) := rfl
theorem T_cmp_Less_int : T n_cmp_Less_int = some (.code f_cmp_Less_int) := rfl
theorem T_slices_partitionEqualOrdered_int : T n_slices_partitionEqualOrdered_int = some (.code f_slices_partitionEqualOrdered_int) := rfl
theorem T_slices_partitionOrdered_int : T n_slices_partitionOrdered_int = some (.code f_slices_partitionOrdered_int) := rfl
theorem T_math_bits_Len32 : T n_math_bits_Len32 = some (.code f_math_bits_Len32) := rfl
theorem T_math_bits_Len64 : T n_math_bits_Len64 = some (.code f_math_bits_Len64) := rfl
theorem T_slices_IndexFunc_ir_Op_ir_Op : T n_slices_IndexFunc_ir_Op_ir_Op = some (.code f_slices_IndexFunc_ir_Op_ir_Op) := rfl
theorem T_word_Mul : T n_word_Mul = some (.code f_word_Mul) := rfl
theorem T_word_Div : T n_word_Div = some (.code f_word_Div) := rfl
theorem T_ir_of : T n_ir_of = some (.code f_ir_of) := rfl
theorem T_slices_siftDownOrdered_int : T n_slices_siftDownOrdered_int = some (.code f_slices_siftDownOrdered_int) := rfl
theorem T_slices_nextPowerOfTwo : T n_slices_nextPowerOfTwo = some (.code f_slices_nextPowerOfTwo) := rfl
theorem T_slices_xorshift_Next : T n_slices_xorshift_Next = some (.code f_slices_xorshift_Next) := rfl
theorem T_slices_medianAdjacentOrdered_int : T n_slices_medianAdjacentOrdered_int = some (.code f_slices_medianAdjacentOrdered_int) := rfl
theorem T_slices_medianOrdered_int : T n_slices_medianOrdered_int = some (.code f_slices_medianOrdered_int) := rfl
theorem T_cmp_isNaN_int : T n_cmp_isNaN_int = some (.code f_cmp_isNaN_int) := rfl
theorem T_ir_one : T n_ir_one = some (.code f_ir_one) := rfl
theorem T_word_Less : T n_word_Less = some (.code f_word_Less) := rfl
theorem T_word_Clz : T n_word_Clz = some (.code f_word_Clz) := rfl
theorem T_word_Clo : T n_word_Clo = some (.code f_word_Clo) := rfl
theorem T_slices_order2Ordered_int : T n_slices_order2Ordered_int = some (.code f_slices_order2Ordered_int) := rfl
theorem T_math_bits_LeadingZeros32 : T n_math_bits_LeadingZeros32 = some (.code f_math_bits_LeadingZeros32) := rfl
section
variable {h : Hp} {q : Value → Hp → Prop} {l : List Value}
@[simp] def g0_pianolalaw21_BlockSame := G_unf c0_pianolalaw21_BlockSame.eq_1
@[simp] def g1_pianolalaw21_BlockSame := G_unf c1_pianolalaw21_BlockSame.eq_1
@[simp] def g2_pianolalaw21_BlockSame := G_unf c2_pianolalaw21_BlockSame.eq_1
@[simp] def g3_pianolalaw21_BlockSame := G_unf c3_pianolalaw21_BlockSame.eq_1
@[simp] def g4_pianolalaw21_BlockSame := G_unf c4_pianolalaw21_BlockSame.eq_1
@[simp] def g5_pianolalaw21_BlockSame := G_unf c5_pianolalaw21_BlockSame.eq_1
@[simp] def g6_pianolalaw21_BlockSame := G_unf c6_pianolalaw21_BlockSame.eq_1
@[simp] def g7_pianolalaw21_BlockSame := G_unf c7_pianolalaw21_BlockSame.eq_1
@[simp] def g8_pianolalaw21_BlockSame := G_unf c8_pianolalaw21_BlockSame.eq_1
@[simp] def g_pianolalaw21_BlockSame := G_unf c_pianolalaw21_BlockSame.eq_1
theorem w_pianolalaw21_BlockSame : WC T n_pianolalaw21_BlockSame l h q ↔ G T (fin [.t 8] (some []) h.next q) c_pianolalaw21_BlockSame [] (envOf l) h := WC_G T_pianolalaw21_BlockSame
@[simp] def g0_pianolalaw21_memory := G_unf c0_pianolalaw21_memory.eq_1
@[simp] def g1_pianolalaw21_memory := G_unf c1_pianolalaw21_memory.eq_1
@[simp] def g2_pianolalaw21_memory := G_unf c2_pianolalaw21_memory.eq_1
@[simp] def g_pianolalaw21_memory := G_unf c_pianolalaw21_memory.eq_1
theorem w_pianolalaw21_memory : WC T n_pianolalaw21_memory l h q ↔ G T (fin [.t 2, .t 3] (some []) h.next q) c_pianolalaw21_memory [] (envOf l) h := WC_G T_pianolalaw21_memory
@[simp] def g0_pianolalaw21_known := G_unf c0_pianolalaw21_known.eq_1
@[simp] def g1_pianolalaw21_known := G_unf c1_pianolalaw21_known.eq_1
@[simp] def g2_pianolalaw21_known := G_unf c2_pianolalaw21_known.eq_1
@[simp] def g3_pianolalaw21_known := G_unf c3_pianolalaw21_known.eq_1
@[simp] def g_pianolalaw21_known := G_unf c_pianolalaw21_known.eq_1
theorem w_pianolalaw21_known : WC T n_pianolalaw21_known l h q ↔ G T (fin [.t 0] (some []) h.next q) c_pianolalaw21_known [] (envOf l) h := WC_G T_pianolalaw21_known
@[simp] def g0_pianolakeep_Image := G_unf c0_pianolakeep_Image.eq_1
@[simp] def g1_pianolakeep_Image := G_unf c1_pianolakeep_Image.eq_1
@[simp] def g2_pianolakeep_Image := G_unf c2_pianolakeep_Image.eq_1
@[simp] def g3_pianolakeep_Image := G_unf c3_pianolakeep_Image.eq_1
@[simp] def g4_pianolakeep_Image := G_unf c4_pianolakeep_Image.eq_1
@[simp] def g5_pianolakeep_Image := G_unf c5_pianolakeep_Image.eq_1
@[simp] def g_pianolakeep_Image := G_unf c_pianolakeep_Image.eq_1
theorem w_pianolakeep_Image : WC T n_pianolakeep_Image l h q ↔ G T (fin [.t 4] (some []) h.next q) c_pianolakeep_Image [] (envOf l) h := WC_G T_pianolakeep_Image
@[simp] def g0_pianolabook_Within := G_unf c0_pianolabook_Within.eq_1
@[simp] def g1_pianolabook_Within := G_unf c1_pianolabook_Within.eq_1
@[simp] def g_pianolabook_Within := G_unf c_pianolabook_Within.eq_1
theorem w_pianolabook_Within : WC T n_pianolabook_Within l h q ↔ G T (fin [.t 6] (some []) h.next q) c_pianolabook_Within [] (envOf l) h := WC_G T_pianolabook_Within
@[simp] def g0_block_Find := G_unf c0_block_Find.eq_1
@[simp] def g1_block_Find := G_unf c1_block_Find.eq_1
@[simp] def g2_block_Find := G_unf c2_block_Find.eq_1
@[simp] def g3_block_Find := G_unf c3_block_Find.eq_1
@[simp] def g4_block_Find := G_unf c4_block_Find.eq_1
@[simp] def g5_block_Find := G_unf c5_block_Find.eq_1
@[simp] def g6_block_Find := G_unf c6_block_Find.eq_1
@[simp] def g7_block_Find := G_unf c7_block_Find.eq_1
@[simp] def g8_block_Find := G_unf c8_block_Find.eq_1
@[simp] def g9_block_Find := G_unf c9_block_Find.eq_1
@[simp] def g_block_Find := G_unf c_block_Find.eq_1
theorem w_block_Find : WC T n_block_Find l h q ↔ G T (fin [.ldn 4 6, .t 7] (some []) h.next q) c_block_Find [] (envOf l) h := WC_G T_block_Find
@[simp] def g0_ram_Ram_Load := G_unf c0_ram_Ram_Load.eq_1
@[simp] def g1_ram_Ram_Load := G_unf c1_ram_Ram_Load.eq_1
@[simp] def g2_ram_Ram_Load := G_unf c2_ram_Ram_Load.eq_1
@[simp] def g3_ram_Ram_Load := G_unf c3_ram_Ram_Load.eq_1
@[simp] def g_ram_Ram_Load := G_unf c_ram_Ram_Load.eq_1
theorem w_ram_Ram_Load : WC T n_ram_Ram_Load l h q ↔ G T (fin [.t 6, .t 7] (some []) h.next q) c_ram_Ram_Load [] (envOf l) h := WC_G T_ram_Ram_Load
@[simp] def g0_ram_Ram_Store := G_unf c0_ram_Ram_Store.eq_1
@[simp] def g1_ram_Ram_Store := G_unf c1_ram_Ram_Store.eq_1
@[simp] def g2_ram_Ram_Store := G_unf c2_ram_Ram_Store.eq_1
@[simp] def g3_ram_Ram_Store := G_unf c3_ram_Ram_Store.eq_1
@[simp] def g_ram_Ram_Store := G_unf c_ram_Ram_Store.eq_1
theorem w_ram_Ram_Store : WC T n_ram_Ram_Store l h q ↔ G T (fin [.t 8] (some []) h.next q) c_ram_Ram_Store [] (envOf l) h := WC_G T_ram_Ram_Store
@[simp] def g0_block_Same := G_unf c0_block_Same.eq_1
@[simp] def g1_block_Same := G_unf c1_block_Same.eq_1
@[simp] def g2_block_Same := G_unf c2_block_Same.eq_1
@[simp] def g3_block_Same := G_unf c3_block_Same.eq_1
@[simp] def g4_block_Same := G_unf c4_block_Same.eq_1
@[simp] def g_block_Same := G_unf c_block_Same.eq_1
theorem w_block_Same : WC T n_block_Same l h q ↔ G T (fin [.t 4] (some []) h.next q) c_block_Same [] (envOf l) h := WC_G T_block_Same
@[simp] def g0_ram_New := G_unf c0_ram_New.eq_1
@[simp] def g_ram_New := G_unf c_ram_New.eq_1
theorem w_ram_New : WC T n_ram_New l h q ↔ G T (fin [.t 2] (some []) h.next q) c_ram_New [] (envOf l) h := WC_G T_ram_New
@[simp] def g0_pianolaref2_New := G_unf c0_pianolaref2_New.eq_1
@[simp] def g_pianolaref2_New := G_unf c_pianolaref2_New.eq_1
theorem w_pianolaref2_New : WC T n_pianolaref2_New l h q ↔ G T (fin [.t 2] (some []) h.next q) c_pianolaref2_New [] (envOf l) h := WC_G T_pianolaref2_New
@[simp] def g0_ram_Ram_Put := G_unf c0_ram_Ram_Put.eq_1
@[simp] def g1_ram_Ram_Put := G_unf c1_ram_Ram_Put.eq_1
@[simp] def g_ram_Ram_Put := G_unf c_ram_Ram_Put.eq_1
theorem w_ram_Ram_Put : WC T n_ram_Ram_Put l h q ↔ G T (fin [.t 6] (some []) h.next q) c_ram_Ram_Put [] (envOf l) h := WC_G T_ram_Ram_Put
@[simp] def g0_pianolaref2_Ram_Put := G_unf c0_pianolaref2_Ram_Put.eq_1
@[simp] def g1_pianolaref2_Ram_Put := G_unf c1_pianolaref2_Ram_Put.eq_1
@[simp] def g_pianolaref2_Ram_Put := G_unf c_pianolaref2_Ram_Put.eq_1
theorem w_pianolaref2_Ram_Put : WC T n_pianolaref2_Ram_Put l h q ↔ G T (fin [.t 6] (some []) h.next q) c_pianolaref2_Ram_Put [] (envOf l) h := WC_G T_pianolaref2_Ram_Put
@[simp] def g_block_Block_Page := G_unf c_block_Block_Page.eq_1
theorem w_block_Block_Page : WC T n_block_Block_Page l h q ↔ G T (fin [.t 2] (some []) h.next q) c_block_Block_Page [] (envOf l) h := WC_G T_block_Block_Page
@[simp] def g0_pianolakeep_put := G_unf c0_pianolakeep_put.eq_1
@[simp] def g1_pianolakeep_put := G_unf c1_pianolakeep_put.eq_1
@[simp] def g2_pianolakeep_put := G_unf c2_pianolakeep_put.eq_1
@[simp] def g_pianolakeep_put := G_unf c_pianolakeep_put.eq_1
theorem w_pianolakeep_put : WC T n_pianolakeep_put l h q ↔ G T (fin [] (some []) h.next q) c_pianolakeep_put [] (envOf l) h := WC_G T_pianolakeep_put
@[simp] def g0_pianolakeep_word := G_unf c0_pianolakeep_word.eq_1
@[simp] def g_pianolakeep_word := G_unf c_pianolakeep_word.eq_1
theorem w_pianolakeep_word : WC T n_pianolakeep_word l h q ↔ G T (fin [.t 2] (some []) h.next q) c_pianolakeep_word [] (envOf l) h := WC_G T_pianolakeep_word
@[simp] def g0_pianolakeep_Code := G_unf c0_pianolakeep_Code.eq_1
@[simp] def g1_pianolakeep_Code := G_unf c1_pianolakeep_Code.eq_1
@[simp] def g2_pianolakeep_Code := G_unf c2_pianolakeep_Code.eq_1
@[simp] def g3_pianolakeep_Code := G_unf c3_pianolakeep_Code.eq_1
@[simp] def g4_pianolakeep_Code := G_unf c4_pianolakeep_Code.eq_1
@[simp] def g5_pianolakeep_Code := G_unf c5_pianolakeep_Code.eq_1
@[simp] def g6_pianolakeep_Code := G_unf c6_pianolakeep_Code.eq_1
@[simp] def g7_pianolakeep_Code := G_unf c7_pianolakeep_Code.eq_1
@[simp] def g8_pianolakeep_Code := G_unf c8_pianolakeep_Code.eq_1
@[simp] def g9_pianolakeep_Code := G_unf c9_pianolakeep_Code.eq_1
@[simp] def g10_pianolakeep_Code := G_unf c10_pianolakeep_Code.eq_1
@[simp] def g11_pianolakeep_Code := G_unf c11_pianolakeep_Code.eq_1
@[simp] def g12_pianolakeep_Code := G_unf c12_pianolakeep_Code.eq_1
@[simp] def g13_pianolakeep_Code := G_unf c13_pianolakeep_Code.eq_1
@[simp] def g14_pianolakeep_Code := G_unf c14_pianolakeep_Code.eq_1
@[simp] def g15_pianolakeep_Code := G_unf c15_pianolakeep_Code.eq_1
@[simp] def g_pianolakeep_Code := G_unf c_pianolakeep_Code.eq_1
theorem w_pianolakeep_Code : WC T n_pianolakeep_Code l h q ↔ G T (fin [.t 2] (some []) h.next q) c_pianolakeep_Code [] (envOf l) h := WC_G T_pianolakeep_Code
@[simp] def g_ram_Ram_Size := G_unf c_ram_Ram_Size.eq_1
theorem w_ram_Ram_Size : WC T n_ram_Ram_Size l h q ↔ G T (fin [.t 2] (some []) h.next q) c_ram_Ram_Size [] (envOf l) h := WC_G T_ram_Ram_Size
@[simp] def g_decode_Of := G_unf c_decode_Of.eq_1
theorem w_decode_Of : WC T n_decode_Of l h q ↔ G T (fin [.ldn 6 2] (some []) h.next q) c_decode_Of [] (envOf l) h := WC_G T_decode_Of
@[simp] def g0_decode_Class := G_unf c0_decode_Class.eq_1
@[simp] def g1_decode_Class := G_unf c1_decode_Class.eq_1
@[simp] def g2_decode_Class := G_unf c2_decode_Class.eq_1
@[simp] def g3_decode_Class := G_unf c3_decode_Class.eq_1
@[simp] def g4_decode_Class := G_unf c4_decode_Class.eq_1
@[simp] def g_decode_Class := G_unf c_decode_Class.eq_1
theorem w_decode_Class : WC T n_decode_Class l h q ↔ G T (fin [.t 2] (some []) h.next q) c_decode_Class [] (envOf l) h := WC_G T_decode_Class
@[simp] def g0_block_Block_add := G_unf c0_block_Block_add.eq_1
@[simp] def g1_block_Block_add := G_unf c1_block_Block_add.eq_1
@[simp] def g_block_Block_add := G_unf c_block_Block_add.eq_1
theorem w_block_Block_add : WC T n_block_Block_add l h q ↔ G T (fin [] (some []) h.next q) c_block_Block_add [] (envOf l) h := WC_G T_block_Block_add
@[simp] def g0_ram_Ram_even := G_unf c0_ram_Ram_even.eq_1
@[simp] def g_ram_Ram_even := G_unf c_ram_Ram_even.eq_1
theorem w_ram_Ram_even : WC T n_ram_Ram_even l h q ↔ G T (fin [.t 6] (some []) h.next q) c_ram_Ram_even [] (envOf l) h := WC_G T_ram_Ram_even
@[simp] def g0_ram_Ram_touch := G_unf c0_ram_Ram_touch.eq_1
@[simp] def g1_ram_Ram_touch := G_unf c1_ram_Ram_touch.eq_1
@[simp] def g_ram_Ram_touch := G_unf c_ram_Ram_touch.eq_1
theorem w_ram_Ram_touch : WC T n_ram_Ram_touch l h q ↔ G T (fin [] (some []) h.next q) c_ram_Ram_touch [] (envOf l) h := WC_G T_ram_Ram_touch
@[simp] def g0_ram_Ram_there := G_unf c0_ram_Ram_there.eq_1
@[simp] def g_ram_Ram_there := G_unf c_ram_Ram_there.eq_1
theorem w_ram_Ram_there : WC T n_ram_Ram_there l h q ↔ G T (fin [.t 6] (some []) h.next q) c_ram_Ram_there [] (envOf l) h := WC_G T_ram_Ram_there
@[simp] def g0_pianolaref2_Ram_In := G_unf c0_pianolaref2_Ram_In.eq_1
@[simp] def g_pianolaref2_Ram_In := G_unf c_pianolaref2_Ram_In.eq_1
theorem w_pianolaref2_Ram_In : WC T n_pianolaref2_Ram_In l h q ↔ G T (fin [.t 6] (some []) h.next q) c_pianolaref2_Ram_In [] (envOf l) h := WC_G T_pianolaref2_Ram_In
@[simp] def g0_pianolaref2_Ram_touch := G_unf c0_pianolaref2_Ram_touch.eq_1
@[simp] def g1_pianolaref2_Ram_touch := G_unf c1_pianolaref2_Ram_touch.eq_1
@[simp] def g2_pianolaref2_Ram_touch := G_unf c2_pianolaref2_Ram_touch.eq_1
@[simp] def g_pianolaref2_Ram_touch := G_unf c_pianolaref2_Ram_touch.eq_1
theorem w_pianolaref2_Ram_touch : WC T n_pianolaref2_Ram_touch l h q ↔ G T (fin [] (some []) h.next q) c_pianolaref2_Ram_touch [] (envOf l) h := WC_G T_pianolaref2_Ram_touch
@[simp] def g0_pianolaref3_Word := G_unf c0_pianolaref3_Word.eq_1
@[simp] def g1_pianolaref3_Word := G_unf c1_pianolaref3_Word.eq_1
@[simp] def g2_pianolaref3_Word := G_unf c2_pianolaref3_Word.eq_1
@[simp] def g3_pianolaref3_Word := G_unf c3_pianolaref3_Word.eq_1
@[simp] def g4_pianolaref3_Word := G_unf c4_pianolaref3_Word.eq_1
@[simp] def g5_pianolaref3_Word := G_unf c5_pianolaref3_Word.eq_1
@[simp] def g6_pianolaref3_Word := G_unf c6_pianolaref3_Word.eq_1
@[simp] def g_pianolaref3_Word := G_unf c_pianolaref3_Word.eq_1
theorem w_pianolaref3_Word : WC T n_pianolaref3_Word l h q ↔ G T (fin [.t 2, .t 3] (some []) h.next q) c_pianolaref3_Word [] (envOf l) h := WC_G T_pianolaref3_Word
@[simp] def g0_pianolakeep_Plain := G_unf c0_pianolakeep_Plain.eq_1
@[simp] def g1_pianolakeep_Plain := G_unf c1_pianolakeep_Plain.eq_1
@[simp] def g_pianolakeep_Plain := G_unf c_pianolakeep_Plain.eq_1
theorem w_pianolakeep_Plain : WC T n_pianolakeep_Plain l h q ↔ G T (fin [.ldn 6 2] (some []) h.next q) c_pianolakeep_Plain [] (envOf l) h := WC_G T_pianolakeep_Plain
@[simp] def g0_pianolakeep_Any := G_unf c0_pianolakeep_Any.eq_1
@[simp] def g_pianolakeep_Any := G_unf c_pianolakeep_Any.eq_1
theorem w_pianolakeep_Any : WC T n_pianolakeep_Any l h q ↔ G T (fin [.ldn 6 2] (some []) h.next q) c_pianolakeep_Any [] (envOf l) h := WC_G T_pianolakeep_Any
@[simp] def g0_pianolakeep_Inst := G_unf c0_pianolakeep_Inst.eq_1
@[simp] def g1_pianolakeep_Inst := G_unf c1_pianolakeep_Inst.eq_1
@[simp] def g2_pianolakeep_Inst := G_unf c2_pianolakeep_Inst.eq_1
@[simp] def g3_pianolakeep_Inst := G_unf c3_pianolakeep_Inst.eq_1
@[simp] def g4_pianolakeep_Inst := G_unf c4_pianolakeep_Inst.eq_1
@[simp] def g5_pianolakeep_Inst := G_unf c5_pianolakeep_Inst.eq_1
@[simp] def g6_pianolakeep_Inst := G_unf c6_pianolakeep_Inst.eq_1
@[simp] def g_pianolakeep_Inst := G_unf c_pianolakeep_Inst.eq_1
theorem w_pianolakeep_Inst : WC T n_pianolakeep_Inst l h q ↔ G T (fin [.ldn 6 4] (some []) h.next q) c_pianolakeep_Inst [] (envOf l) h := WC_G T_pianolakeep_Inst
@[simp] def g0_decode_with := G_unf c0_decode_with.eq_1
@[simp] def g1_decode_with := G_unf c1_decode_with.eq_1
@[simp] def g2_decode_with := G_unf c2_decode_with.eq_1
@[simp] def g3_decode_with := G_unf c3_decode_with.eq_1
@[simp] def g4_decode_with := G_unf c4_decode_with.eq_1
@[simp] def g5_decode_with := G_unf c5_decode_with.eq_1
@[simp] def g6_decode_with := G_unf c6_decode_with.eq_1
@[simp] def g_decode_with := G_unf c_decode_with.eq_1
theorem w_decode_with : WC T n_decode_with l h q ↔ G T (fin [.ldn 6 4] (some []) h.next q) c_decode_with [] (envOf l) h := WC_G T_decode_with
@[simp] def g0_decode_kind := G_unf c0_decode_kind.eq_1
@[simp] def g1_decode_kind := G_unf c1_decode_kind.eq_1
@[simp] def g2_decode_kind := G_unf c2_decode_kind.eq_1
@[simp] def g3_decode_kind := G_unf c3_decode_kind.eq_1
@[simp] def g_decode_kind := G_unf c_decode_kind.eq_1
theorem w_decode_kind : WC T n_decode_kind l h q ↔ G T (fin [.t 2] (some []) h.next q) c_decode_kind [] (envOf l) h := WC_G T_decode_kind
@[simp] def g_opt_Opt := G_unf c_opt_Opt.eq_1
theorem w_opt_Opt : WC T n_opt_Opt l h q ↔ G T (fin [.t 2] (some []) h.next q) c_opt_Opt [] (envOf l) h := WC_G T_opt_Opt
@[simp] def g0_lift_Of := G_unf c0_lift_Of.eq_1
@[simp] def g1_lift_Of := G_unf c1_lift_Of.eq_1
@[simp] def g2_lift_Of := G_unf c2_lift_Of.eq_1
@[simp] def g3_lift_Of := G_unf c3_lift_Of.eq_1
@[simp] def g4_lift_Of := G_unf c4_lift_Of.eq_1
@[simp] def g5_lift_Of := G_unf c5_lift_Of.eq_1
@[simp] def g6_lift_Of := G_unf c6_lift_Of.eq_1
@[simp] def g7_lift_Of := G_unf c7_lift_Of.eq_1
@[simp] def g8_lift_Of := G_unf c8_lift_Of.eq_1
@[simp] def g9_lift_Of := G_unf c9_lift_Of.eq_1
@[simp] def g10_lift_Of := G_unf c10_lift_Of.eq_1
@[simp] def g11_lift_Of := G_unf c11_lift_Of.eq_1
@[simp] def g12_lift_Of := G_unf c12_lift_Of.eq_1
@[simp] def g13_lift_Of := G_unf c13_lift_Of.eq_1
@[simp] def g_lift_Of := G_unf c_lift_Of.eq_1
theorem w_lift_Of : WC T n_lift_Of l h q ↔ G T (fin [.t 2] (some []) h.next q) c_lift_Of [] (envOf l) h := WC_G T_lift_Of
@[simp] def g0_pianolaref3_has := G_unf c0_pianolaref3_has.eq_1
@[simp] def g1_pianolaref3_has := G_unf c1_pianolaref3_has.eq_1
@[simp] def g_pianolaref3_has := G_unf c_pianolaref3_has.eq_1
theorem w_pianolaref3_has : WC T n_pianolaref3_has l h q ↔ G T (fin [.t 4] (some []) h.next q) c_pianolaref3_has [] (envOf l) h := WC_G T_pianolaref3_has
@[simp] def g0_pianolaref3_Right := G_unf c0_pianolaref3_Right.eq_1
@[simp] def g1_pianolaref3_Right := G_unf c1_pianolaref3_Right.eq_1
@[simp] def g2_pianolaref3_Right := G_unf c2_pianolaref3_Right.eq_1
@[simp] def g3_pianolaref3_Right := G_unf c3_pianolaref3_Right.eq_1
@[simp] def g_pianolaref3_Right := G_unf c_pianolaref3_Right.eq_1
theorem w_pianolaref3_Right : WC T n_pianolaref3_Right l h q ↔ G T (fin [.t 2] (some []) h.next q) c_pianolaref3_Right [] (envOf l) h := WC_G T_pianolaref3_Right
@[simp] def g0_pianolaref3_find := G_unf c0_pianolaref3_find.eq_1
@[simp] def g1_pianolaref3_find := G_unf c1_pianolaref3_find.eq_1
@[simp] def g2_pianolaref3_find := G_unf c2_pianolaref3_find.eq_1
@[simp] def g3_pianolaref3_find := G_unf c3_pianolaref3_find.eq_1
@[simp] def g_pianolaref3_find := G_unf c_pianolaref3_find.eq_1
theorem w_pianolaref3_find : WC T n_pianolaref3_find l h q ↔ G T (fin [.ldn 4 2, .t 3] (some []) h.next q) c_pianolaref3_find [] (envOf l) h := WC_G T_pianolaref3_find
@[simp] def g0_pianolakeep_near := G_unf c0_pianolakeep_near.eq_1
@[simp] def g_pianolakeep_near := G_unf c_pianolakeep_near.eq_1
theorem w_pianolakeep_near : WC T n_pianolakeep_near l h q ↔ G T (fin [.t 2] (some []) h.next q) c_pianolakeep_near [] (envOf l) h := WC_G T_pianolakeep_near
@[simp] def g0_pianolakeep_only := G_unf c0_pianolakeep_only.eq_1
@[simp] def g1_pianolakeep_only := G_unf c1_pianolakeep_only.eq_1
@[simp] def g2_pianolakeep_only := G_unf c2_pianolakeep_only.eq_1
@[simp] def g3_pianolakeep_only := G_unf c3_pianolakeep_only.eq_1
@[simp] def g4_pianolakeep_only := G_unf c4_pianolakeep_only.eq_1
@[simp] def g_pianolakeep_only := G_unf c_pianolakeep_only.eq_1
theorem w_pianolakeep_only : WC T n_pianolakeep_only l h q ↔ G T (fin [.ldn 6 4] (some []) h.next q) c_pianolakeep_only [] (envOf l) h := WC_G T_pianolakeep_only
@[simp] def g0_decode_fields := G_unf c0_decode_fields.eq_1
@[simp] def g1_decode_fields := G_unf c1_decode_fields.eq_1
@[simp] def g2_decode_fields := G_unf c2_decode_fields.eq_1
@[simp] def g3_decode_fields := G_unf c3_decode_fields.eq_1
@[simp] def g4_decode_fields := G_unf c4_decode_fields.eq_1
@[simp] def g5_decode_fields := G_unf c5_decode_fields.eq_1
@[simp] def g6_decode_fields := G_unf c6_decode_fields.eq_1
@[simp] def g7_decode_fields := G_unf c7_decode_fields.eq_1
@[simp] def g8_decode_fields := G_unf c8_decode_fields.eq_1
@[simp] def g9_decode_fields := G_unf c9_decode_fields.eq_1
@[simp] def g10_decode_fields := G_unf c10_decode_fields.eq_1
@[simp] def g_decode_fields := G_unf c_decode_fields.eq_1
theorem w_decode_fields : WC T n_decode_fields l h q ↔ G T (fin [.t 2] (some []) h.next q) c_decode_fields [] (envOf l) h := WC_G T_decode_fields
@[simp] def g0_decode_special := G_unf c0_decode_special.eq_1
@[simp] def g1_decode_special := G_unf c1_decode_special.eq_1
@[simp] def g2_decode_special := G_unf c2_decode_special.eq_1
@[simp] def g3_decode_special := G_unf c3_decode_special.eq_1
@[simp] def g4_decode_special := G_unf c4_decode_special.eq_1
@[simp] def g5_decode_special := G_unf c5_decode_special.eq_1
@[simp] def g6_decode_special := G_unf c6_decode_special.eq_1
@[simp] def g7_decode_special := G_unf c7_decode_special.eq_1
@[simp] def g8_decode_special := G_unf c8_decode_special.eq_1
@[simp] def g9_decode_special := G_unf c9_decode_special.eq_1
@[simp] def g10_decode_special := G_unf c10_decode_special.eq_1
@[simp] def g_decode_special := G_unf c_decode_special.eq_1
theorem w_decode_special : WC T n_decode_special l h q ↔ G T (fin [.t 2] (some []) h.next q) c_decode_special [] (envOf l) h := WC_G T_decode_special
@[simp] def g0_decode_regimm := G_unf c0_decode_regimm.eq_1
@[simp] def g1_decode_regimm := G_unf c1_decode_regimm.eq_1
@[simp] def g_decode_regimm := G_unf c_decode_regimm.eq_1
theorem w_decode_regimm : WC T n_decode_regimm l h q ↔ G T (fin [.t 2] (some []) h.next q) c_decode_regimm [] (envOf l) h := WC_G T_decode_regimm
@[simp] def g0_decode_cop0 := G_unf c0_decode_cop0.eq_1
@[simp] def g1_decode_cop0 := G_unf c1_decode_cop0.eq_1
@[simp] def g_decode_cop0 := G_unf c_decode_cop0.eq_1
theorem w_decode_cop0 : WC T n_decode_cop0 l h q ↔ G T (fin [.t 2] (some []) h.next q) c_decode_cop0 [] (envOf l) h := WC_G T_decode_cop0
@[simp] def g0_decode_special2 := G_unf c0_decode_special2.eq_1
@[simp] def g1_decode_special2 := G_unf c1_decode_special2.eq_1
@[simp] def g_decode_special2 := G_unf c_decode_special2.eq_1
theorem w_decode_special2 : WC T n_decode_special2 l h q ↔ G T (fin [.t 2] (some []) h.next q) c_decode_special2 [] (envOf l) h := WC_G T_decode_special2
@[simp] def g0_decode_major := G_unf c0_decode_major.eq_1
@[simp] def g1_decode_major := G_unf c1_decode_major.eq_1
@[simp] def g2_decode_major := G_unf c2_decode_major.eq_1
@[simp] def g3_decode_major := G_unf c3_decode_major.eq_1
@[simp] def g4_decode_major := G_unf c4_decode_major.eq_1
@[simp] def g5_decode_major := G_unf c5_decode_major.eq_1
@[simp] def g6_decode_major := G_unf c6_decode_major.eq_1
@[simp] def g7_decode_major := G_unf c7_decode_major.eq_1
@[simp] def g8_decode_major := G_unf c8_decode_major.eq_1
@[simp] def g9_decode_major := G_unf c9_decode_major.eq_1
@[simp] def g_decode_major := G_unf c_decode_major.eq_1
theorem w_decode_major : WC T n_decode_major l h q ↔ G T (fin [.t 2] (some []) h.next q) c_decode_major [] (envOf l) h := WC_G T_decode_major
@[simp] def g0_opt_Dead := G_unf c0_opt_Dead.eq_1
@[simp] def g1_opt_Dead := G_unf c1_opt_Dead.eq_1
@[simp] def g2_opt_Dead := G_unf c2_opt_Dead.eq_1
@[simp] def g3_opt_Dead := G_unf c3_opt_Dead.eq_1
@[simp] def g4_opt_Dead := G_unf c4_opt_Dead.eq_1
@[simp] def g5_opt_Dead := G_unf c5_opt_Dead.eq_1
@[simp] def g6_opt_Dead := G_unf c6_opt_Dead.eq_1
@[simp] def g7_opt_Dead := G_unf c7_opt_Dead.eq_1
@[simp] def g8_opt_Dead := G_unf c8_opt_Dead.eq_1
@[simp] def g9_opt_Dead := G_unf c9_opt_Dead.eq_1
@[simp] def g10_opt_Dead := G_unf c10_opt_Dead.eq_1
@[simp] def g11_opt_Dead := G_unf c11_opt_Dead.eq_1
@[simp] def g_opt_Dead := G_unf c_opt_Dead.eq_1
theorem w_opt_Dead : WC T n_opt_Dead l h q ↔ G T (fin [.t 2] (some []) h.next q) c_opt_Dead [] (envOf l) h := WC_G T_opt_Dead
@[simp] def g0_opt_Fold := G_unf c0_opt_Fold.eq_1
@[simp] def g1_opt_Fold := G_unf c1_opt_Fold.eq_1
@[simp] def g2_opt_Fold := G_unf c2_opt_Fold.eq_1
@[simp] def g3_opt_Fold := G_unf c3_opt_Fold.eq_1
@[simp] def g4_opt_Fold := G_unf c4_opt_Fold.eq_1
@[simp] def g5_opt_Fold := G_unf c5_opt_Fold.eq_1
@[simp] def g_opt_Fold := G_unf c_opt_Fold.eq_1
theorem w_opt_Fold : WC T n_opt_Fold l h q ↔ G T (fin [.t 2] (some []) h.next q) c_opt_Fold [] (envOf l) h := WC_G T_opt_Fold
@[simp] def g0_lift_Is := G_unf c0_lift_Is.eq_1
@[simp] def g_lift_Is := G_unf c_lift_Is.eq_1
theorem w_lift_Is : WC T n_lift_Is l h q ↔ G T (fin [.t 2] (some []) h.next q) c_lift_Is [] (envOf l) h := WC_G T_lift_Is
@[simp] def g0_lift_kind := G_unf c0_lift_kind.eq_1
@[simp] def g1_lift_kind := G_unf c1_lift_kind.eq_1
@[simp] def g2_lift_kind := G_unf c2_lift_kind.eq_1
@[simp] def g3_lift_kind := G_unf c3_lift_kind.eq_1
@[simp] def g4_lift_kind := G_unf c4_lift_kind.eq_1
@[simp] def g5_lift_kind := G_unf c5_lift_kind.eq_1
@[simp] def g6_lift_kind := G_unf c6_lift_kind.eq_1
@[simp] def g7_lift_kind := G_unf c7_lift_kind.eq_1
@[simp] def g8_lift_kind := G_unf c8_lift_kind.eq_1
@[simp] def g9_lift_kind := G_unf c9_lift_kind.eq_1
@[simp] def g10_lift_kind := G_unf c10_lift_kind.eq_1
@[simp] def g11_lift_kind := G_unf c11_lift_kind.eq_1
@[simp] def g12_lift_kind := G_unf c12_lift_kind.eq_1
@[simp] def g_lift_kind := G_unf c_lift_kind.eq_1
theorem w_lift_kind : WC T n_lift_kind l h q ↔ G T (fin [.t 2] (some []) h.next q) c_lift_kind [] (envOf l) h := WC_G T_lift_kind
@[simp] def g0_alu_Into := G_unf c0_alu_Into.eq_1
@[simp] def g1_alu_Into := G_unf c1_alu_Into.eq_1
@[simp] def g_alu_Into := G_unf c_alu_Into.eq_1
theorem w_alu_Into : WC T n_alu_Into l h q ↔ G T (fin [.t 2] (some []) h.next q) c_alu_Into [] (envOf l) h := WC_G T_alu_Into
@[simp] def g0_lift_imm := G_unf c0_lift_imm.eq_1
@[simp] def g_lift_imm := G_unf c_lift_imm.eq_1
theorem w_lift_imm : WC T n_lift_imm l h q ↔ G T (fin [.t 2] (some []) h.next q) c_lift_imm [] (envOf l) h := WC_G T_lift_imm
@[simp] def g0_pianolaref3_special := G_unf c0_pianolaref3_special.eq_1
@[simp] def g_pianolaref3_special := G_unf c_pianolaref3_special.eq_1
theorem w_pianolaref3_special : WC T n_pianolaref3_special l h q ↔ G T (fin [.t 0] (some []) h.next q) c_pianolaref3_special [] (envOf l) h := WC_G T_pianolaref3_special
@[simp] def g0_pianolaref3_others := G_unf c0_pianolaref3_others.eq_1
@[simp] def g_pianolaref3_others := G_unf c_pianolaref3_others.eq_1
theorem w_pianolaref3_others : WC T n_pianolaref3_others l h q ↔ G T (fin [.t 0] (some []) h.next q) c_pianolaref3_others [] (envOf l) h := WC_G T_pianolaref3_others
@[simp] def g0_pianolaref3_plain := G_unf c0_pianolaref3_plain.eq_1
@[simp] def g_pianolaref3_plain := G_unf c_pianolaref3_plain.eq_1
theorem w_pianolaref3_plain : WC T n_pianolaref3_plain l h q ↔ G T (fin [.t 0] (some []) h.next q) c_pianolaref3_plain [] (envOf l) h := WC_G T_pianolaref3_plain
@[simp] def g0_pianolaref3_small := G_unf c0_pianolaref3_small.eq_1
@[simp] def g_pianolaref3_small := G_unf c_pianolaref3_small.eq_1
theorem w_pianolaref3_small : WC T n_pianolaref3_small l h q ↔ G T (fin [.t 4] (some []) h.next q) c_pianolaref3_small [] (envOf l) h := WC_G T_pianolaref3_small
@[simp] def g0_decode_table := G_unf c0_decode_table.eq_1
@[simp] def g1_decode_table := G_unf c1_decode_table.eq_1
@[simp] def g2_decode_table := G_unf c2_decode_table.eq_1
@[simp] def g_decode_table := G_unf c_decode_table.eq_1
theorem w_decode_table : WC T n_decode_table l h q ↔ G T (fin [.t 2] (some []) h.next q) c_decode_table [] (envOf l) h := WC_G T_decode_table
@[simp] def g0_opt_right := G_unf c0_opt_right.eq_1
@[simp] def g1_opt_right := G_unf c1_opt_right.eq_1
@[simp] def g_opt_right := G_unf c_opt_right.eq_1
theorem w_opt_right : WC T n_opt_right l h q ↔ G T (fin [.t 2] (some []) h.next q) c_opt_right [] (envOf l) h := WC_G T_opt_right
@[simp] def g0_ir_Writes := G_unf c0_ir_Writes.eq_1
@[simp] def g1_ir_Writes := G_unf c1_ir_Writes.eq_1
@[simp] def g2_ir_Writes := G_unf c2_ir_Writes.eq_1
@[simp] def g_ir_Writes := G_unf c_ir_Writes.eq_1
theorem w_ir_Writes : WC T n_ir_Writes l h q ↔ G T (fin [.t 2] (some []) h.next q) c_ir_Writes [] (envOf l) h := WC_G T_ir_Writes
@[simp] def g_slices_ContainsFunc_int_int := G_unf c_slices_ContainsFunc_int_int.eq_1
theorem w_slices_ContainsFunc_int_int : WC T n_slices_ContainsFunc_int_int l h q ↔ G T (fin [.t 4] (some []) h.next q) c_slices_ContainsFunc_int_int [] (envOf l) h := WC_G T_slices_ContainsFunc_int_int
@[simp] def g_opt_Dead_1 := G_unf c_opt_Dead_1.eq_1
theorem w_opt_Dead_1 : WC T n_opt_Dead_1 l h q ↔ G T (fin [.t 3] (some []) h.next q) c_opt_Dead_1 [] (envOf l) h := WC_G T_opt_Dead_1
@[simp] def g0_opt_sure := G_unf c0_opt_sure.eq_1
@[simp] def g_opt_sure := G_unf c_opt_sure.eq_1
theorem w_opt_sure : WC T n_opt_sure l h q ↔ G T (fin [.t 2] (some []) h.next q) c_opt_sure [] (envOf l) h := WC_G T_opt_sure
@[simp] def g0_ir_Reads := G_unf c0_ir_Reads.eq_1
@[simp] def g1_ir_Reads := G_unf c1_ir_Reads.eq_1
@[simp] def g2_ir_Reads := G_unf c2_ir_Reads.eq_1
@[simp] def g3_ir_Reads := G_unf c3_ir_Reads.eq_1
@[simp] def g4_ir_Reads := G_unf c4_ir_Reads.eq_1
@[simp] def g_ir_Reads := G_unf c_ir_Reads.eq_1
theorem w_ir_Reads : WC T n_ir_Reads l h q ↔ G T (fin [.t 2] (some []) h.next q) c_ir_Reads [] (envOf l) h := WC_G T_ir_Reads
@[simp] def g0_slices_Reverse_ir_Op_ir_Op := G_unf c0_slices_Reverse_ir_Op_ir_Op.eq_1
@[simp] def g1_slices_Reverse_ir_Op_ir_Op := G_unf c1_slices_Reverse_ir_Op_ir_Op.eq_1
@[simp] def g_slices_Reverse_ir_Op_ir_Op := G_unf c_slices_Reverse_ir_Op_ir_Op.eq_1
theorem w_slices_Reverse_ir_Op_ir_Op : WC T n_slices_Reverse_ir_Op_ir_Op l h q ↔ G T (fin [] (some []) h.next q) c_slices_Reverse_ir_Op_ir_Op [] (envOf l) h := WC_G T_slices_Reverse_ir_Op_ir_Op
@[simp] def g0_opt_facts_fold := G_unf c0_opt_facts_fold.eq_1
@[simp] def g1_opt_facts_fold := G_unf c1_opt_facts_fold.eq_1
@[simp] def g2_opt_facts_fold := G_unf c2_opt_facts_fold.eq_1
@[simp] def g3_opt_facts_fold := G_unf c3_opt_facts_fold.eq_1
@[simp] def g4_opt_facts_fold := G_unf c4_opt_facts_fold.eq_1
@[simp] def g_opt_facts_fold := G_unf c_opt_facts_fold.eq_1
theorem w_opt_facts_fold : WC T n_opt_facts_fold l h q ↔ G T (fin [.ldn 5 4, .t 5] (some []) h.next q) c_opt_facts_fold [] (envOf l) h := WC_G T_opt_facts_fold
@[simp] def g0_opt_facts_done := G_unf c0_opt_facts_done.eq_1
@[simp] def g1_opt_facts_done := G_unf c1_opt_facts_done.eq_1
@[simp] def g2_opt_facts_done := G_unf c2_opt_facts_done.eq_1
@[simp] def g3_opt_facts_done := G_unf c3_opt_facts_done.eq_1
@[simp] def g_opt_facts_done := G_unf c_opt_facts_done.eq_1
theorem w_opt_facts_done : WC T n_opt_facts_done l h q ↔ G T (fin [] (some []) h.next q) c_opt_facts_done [] (envOf l) h := WC_G T_opt_facts_done
@[simp] def g0_decode_Right := G_unf c0_decode_Right.eq_1
@[simp] def g1_decode_Right := G_unf c1_decode_Right.eq_1
@[simp] def g2_decode_Right := G_unf c2_decode_Right.eq_1
@[simp] def g3_decode_Right := G_unf c3_decode_Right.eq_1
@[simp] def g_decode_Right := G_unf c_decode_Right.eq_1
theorem w_decode_Right : WC T n_decode_Right l h q ↔ G T (fin [.t 2] (some []) h.next q) c_decode_Right [] (envOf l) h := WC_G T_decode_Right
@[simp] def g0_alu_Is := G_unf c0_alu_Is.eq_1
@[simp] def g_alu_Is := G_unf c_alu_Is.eq_1
theorem w_alu_Is : WC T n_alu_Is l h q ↔ G T (fin [.t 2] (some []) h.next q) c_alu_Is [] (envOf l) h := WC_G T_alu_Is
@[simp] def g0_word_Sign := G_unf c0_word_Sign.eq_1
@[simp] def g1_word_Sign := G_unf c1_word_Sign.eq_1
@[simp] def g_word_Sign := G_unf c_word_Sign.eq_1
theorem w_word_Sign : WC T n_word_Sign l h q ↔ G T (fin [.t 4] (some []) h.next q) c_word_Sign [] (envOf l) h := WC_G T_word_Sign
@[simp] def g0_ir_Right := G_unf c0_ir_Right.eq_1
@[simp] def g1_ir_Right := G_unf c1_ir_Right.eq_1
@[simp] def g2_ir_Right := G_unf c2_ir_Right.eq_1
@[simp] def g3_ir_Right := G_unf c3_ir_Right.eq_1
@[simp] def g_ir_Right := G_unf c_ir_Right.eq_1
theorem w_ir_Right : WC T n_ir_Right l h q ↔ G T (fin [.t 2] (some []) h.next q) c_ir_Right [] (envOf l) h := WC_G T_ir_Right
@[simp] def g0_slices_IndexFunc_int_int := G_unf c0_slices_IndexFunc_int_int.eq_1
@[simp] def g1_slices_IndexFunc_int_int := G_unf c1_slices_IndexFunc_int_int.eq_1
@[simp] def g_slices_IndexFunc_int_int := G_unf c_slices_IndexFunc_int_int.eq_1
theorem w_slices_IndexFunc_int_int : WC T n_slices_IndexFunc_int_int l h q ↔ G T (fin [.t 4] (some []) h.next q) c_slices_IndexFunc_int_int [] (envOf l) h := WC_G T_slices_IndexFunc_int_int
@[simp] def g_slices_Sort_int_int := G_unf c_slices_Sort_int_int.eq_1
theorem w_slices_Sort_int_int : WC T n_slices_Sort_int_int l h q ↔ G T (fin [] (some []) h.next q) c_slices_Sort_int_int [] (envOf l) h := WC_G T_slices_Sort_int_int
@[simp] def g0_slices_Compact_int_int := G_unf c0_slices_Compact_int_int.eq_1
@[simp] def g1_slices_Compact_int_int := G_unf c1_slices_Compact_int_int.eq_1
@[simp] def g2_slices_Compact_int_int := G_unf c2_slices_Compact_int_int.eq_1
@[simp] def g3_slices_Compact_int_int := G_unf c3_slices_Compact_int_int.eq_1
@[simp] def g4_slices_Compact_int_int := G_unf c4_slices_Compact_int_int.eq_1
@[simp] def g5_slices_Compact_int_int := G_unf c5_slices_Compact_int_int.eq_1
@[simp] def g6_slices_Compact_int_int := G_unf c6_slices_Compact_int_int.eq_1
@[simp] def g_slices_Compact_int_int := G_unf c_slices_Compact_int_int.eq_1
theorem w_slices_Compact_int_int : WC T n_slices_Compact_int_int l h q ↔ G T (fin [.t 2] (some []) h.next q) c_slices_Compact_int_int [] (envOf l) h := WC_G T_slices_Compact_int_int
@[simp] def g0_opt_facts_knows := G_unf c0_opt_facts_knows.eq_1
@[simp] def g1_opt_facts_knows := G_unf c1_opt_facts_knows.eq_1
@[simp] def g_opt_facts_knows := G_unf c_opt_facts_knows.eq_1
theorem w_opt_facts_knows : WC T n_opt_facts_knows l h q ↔ G T (fin [.t 4] (some []) h.next q) c_opt_facts_knows [] (envOf l) h := WC_G T_opt_facts_knows
@[simp] def g0_ir_Run := G_unf c0_ir_Run.eq_1
@[simp] def g1_ir_Run := G_unf c1_ir_Run.eq_1
@[simp] def g2_ir_Run := G_unf c2_ir_Run.eq_1
@[simp] def g3_ir_Run := G_unf c3_ir_Run.eq_1
@[simp] def g_ir_Run := G_unf c_ir_Run.eq_1
theorem w_ir_Run : WC T n_ir_Run l h q ↔ G T (fin [.t 4] (some []) h.next q) c_ir_Run [] (envOf l) h := WC_G T_ir_Run
@[simp] def g0_decode_put := G_unf c0_decode_put.eq_1
@[simp] def g_decode_put := G_unf c_decode_put.eq_1
theorem w_decode_put : WC T n_decode_put l h q ↔ G T (fin [.t 2] (some []) h.next q) c_decode_put [] (envOf l) h := WC_G T_decode_put
@[simp] def g_word_Sar := G_unf c_word_Sar.eq_1
theorem w_word_Sar : WC T n_word_Sar l h q ↔ G T (fin [.t 4] (some []) h.next q) c_word_Sar [] (envOf l) h := WC_G T_word_Sar
@[simp] def g0_slices_pdqsortOrdered_int := G_unf c0_slices_pdqsortOrdered_int.eq_1
@[simp] def g1_slices_pdqsortOrdered_int := G_unf c1_slices_pdqsortOrdered_int.eq_1
@[simp] def g2_slices_pdqsortOrdered_int := G_unf c2_slices_pdqsortOrdered_int.eq_1
@[simp] def g3_slices_pdqsortOrdered_int := G_unf c3_slices_pdqsortOrdered_int.eq_1
@[simp] def g4_slices_pdqsortOrdered_int := G_unf c4_slices_pdqsortOrdered_int.eq_1
@[simp] def g5_slices_pdqsortOrdered_int := G_unf c5_slices_pdqsortOrdered_int.eq_1
@[simp] def g6_slices_pdqsortOrdered_int := G_unf c6_slices_pdqsortOrdered_int.eq_1
@[simp] def g7_slices_pdqsortOrdered_int := G_unf c7_slices_pdqsortOrdered_int.eq_1
@[simp] def g8_slices_pdqsortOrdered_int := G_unf c8_slices_pdqsortOrdered_int.eq_1
@[simp] def g9_slices_pdqsortOrdered_int := G_unf c9_slices_pdqsortOrdered_int.eq_1
@[simp] def g10_slices_pdqsortOrdered_int := G_unf c10_slices_pdqsortOrdered_int.eq_1
@[simp] def g11_slices_pdqsortOrdered_int := G_unf c11_slices_pdqsortOrdered_int.eq_1
@[simp] def g12_slices_pdqsortOrdered_int := G_unf c12_slices_pdqsortOrdered_int.eq_1
@[simp] def g13_slices_pdqsortOrdered_int := G_unf c13_slices_pdqsortOrdered_int.eq_1
@[simp] def g14_slices_pdqsortOrdered_int := G_unf c14_slices_pdqsortOrdered_int.eq_1
@[simp] def g_slices_pdqsortOrdered_int := G_unf c_slices_pdqsortOrdered_int.eq_1
theorem w_slices_pdqsortOrdered_int : WC T n_slices_pdqsortOrdered_int l h q ↔ G T (fin [] (some []) h.next q) c_slices_pdqsortOrdered_int [] (envOf l) h := WC_G T_slices_pdqsortOrdered_int
@[simp] def g0_math_bits_Len := G_unf c0_math_bits_Len.eq_1
@[simp] def g_math_bits_Len := G_unf c_math_bits_Len.eq_1
theorem w_math_bits_Len : WC T n_math_bits_Len l h q ↔ G T (fin [.t 2] (some []) h.next q) c_math_bits_Len [] (envOf l) h := WC_G T_math_bits_Len
@[simp] def g_slices_ContainsFunc_ir_Op_ir_Op := G_unf c_slices_ContainsFunc_ir_Op_ir_Op.eq_1
theorem w_slices_ContainsFunc_ir_Op_ir_Op : WC T n_slices_ContainsFunc_ir_Op_ir_Op l h q ↔ G T (fin [.t 4] (some []) h.next q) c_slices_ContainsFunc_ir_Op_ir_Op [] (envOf l) h := WC_G T_slices_ContainsFunc_ir_Op_ir_Op
@[simp] def g_ir_Run_1 := G_unf c_ir_Run_1.eq_1
theorem w_ir_Run_1 : WC T n_ir_Run_1 l h q ↔ G T (fin [.t 2] (some []) h.next q) c_ir_Run_1 [] (envOf l) h := WC_G T_ir_Run_1
@[simp] def g0_ir_Regs_do := G_unf c0_ir_Regs_do.eq_1
@[simp] def g1_ir_Regs_do := G_unf c1_ir_Regs_do.eq_1
@[simp] def g2_ir_Regs_do := G_unf c2_ir_Regs_do.eq_1
@[simp] def g3_ir_Regs_do := G_unf c3_ir_Regs_do.eq_1
@[simp] def g4_ir_Regs_do := G_unf c4_ir_Regs_do.eq_1
@[simp] def g5_ir_Regs_do := G_unf c5_ir_Regs_do.eq_1
@[simp] def g6_ir_Regs_do := G_unf c6_ir_Regs_do.eq_1
@[simp] def g_ir_Regs_do := G_unf c_ir_Regs_do.eq_1
theorem w_ir_Regs_do : WC T n_ir_Regs_do l h q ↔ G T (fin [] (some []) h.next q) c_ir_Regs_do [] (envOf l) h := WC_G T_ir_Regs_do
@[simp] def g0_slices_insertionSortOrdered_int := G_unf c0_slices_insertionSortOrdered_int.eq_1
@[simp] def g1_slices_insertionSortOrdered_int := G_unf c1_slices_insertionSortOrdered_int.eq_1
@[simp] def g2_slices_insertionSortOrdered_int := G_unf c2_slices_insertionSortOrdered_int.eq_1
@[simp] def g_slices_insertionSortOrdered_int := G_unf c_slices_insertionSortOrdered_int.eq_1
theorem w_slices_insertionSortOrdered_int : WC T n_slices_insertionSortOrdered_int l h q ↔ G T (fin [] (some []) h.next q) c_slices_insertionSortOrdered_int [] (envOf l) h := WC_G T_slices_insertionSortOrdered_int
@[simp] def g0_slices_heapSortOrdered_int := G_unf c0_slices_heapSortOrdered_int.eq_1
@[simp] def g1_slices_heapSortOrdered_int := G_unf c1_slices_heapSortOrdered_int.eq_1
@[simp] def g2_slices_heapSortOrdered_int := G_unf c2_slices_heapSortOrdered_int.eq_1
@[simp] def g3_slices_heapSortOrdered_int := G_unf c3_slices_heapSortOrdered_int.eq_1
@[simp] def g4_slices_heapSortOrdered_int := G_unf c4_slices_heapSortOrdered_int.eq_1
@[simp] def g_slices_heapSortOrdered_int := G_unf c_slices_heapSortOrdered_int.eq_1
theorem w_slices_heapSortOrdered_int : WC T n_slices_heapSortOrdered_int l h q ↔ G T (fin [] (some []) h.next q) c_slices_heapSortOrdered_int [] (envOf l) h := WC_G T_slices_heapSortOrdered_int
@[simp] def g0_slices_breakPatternsOrdered_int := G_unf c0_slices_breakPatternsOrdered_int.eq_1
@[simp] def g1_slices_breakPatternsOrdered_int := G_unf c1_slices_breakPatternsOrdered_int.eq_1
@[simp] def g2_slices_breakPatternsOrdered_int := G_unf c2_slices_breakPatternsOrdered_int.eq_1
@[simp] def g3_slices_breakPatternsOrdered_int := G_unf c3_slices_breakPatternsOrdered_int.eq_1
@[simp] def g4_slices_breakPatternsOrdered_int := G_unf c4_slices_breakPatternsOrdered_int.eq_1
@[simp] def g5_slices_breakPatternsOrdered_int := G_unf c5_slices_breakPatternsOrdered_int.eq_1
@[simp] def g_slices_breakPatternsOrdered_int := G_unf c_slices_breakPatternsOrdered_int.eq_1
theorem w_slices_breakPatternsOrdered_int : WC T n_slices_breakPatternsOrdered_int l h q ↔ G T (fin [] (some []) h.next q) c_slices_breakPatternsOrdered_int [] (envOf l) h := WC_G T_slices_breakPatternsOrdered_int
@[simp] def g0_slices_choosePivotOrdered_int := G_unf c0_slices_choosePivotOrdered_int.eq_1
@[simp] def g1_slices_choosePivotOrdered_int := G_unf c1_slices_choosePivotOrdered_int.eq_1
@[simp] def g2_slices_choosePivotOrdered_int := G_unf c2_slices_choosePivotOrdered_int.eq_1
@[simp] def g3_slices_choosePivotOrdered_int := G_unf c3_slices_choosePivotOrdered_int.eq_1
@[simp] def g4_slices_choosePivotOrdered_int := G_unf c4_slices_choosePivotOrdered_int.eq_1
@[simp] def g5_slices_choosePivotOrdered_int := G_unf c5_slices_choosePivotOrdered_int.eq_1
@[simp] def g_slices_choosePivotOrdered_int := G_unf c_slices_choosePivotOrdered_int.eq_1
theorem w_slices_choosePivotOrdered_int : WC T n_slices_choosePivotOrdered_int l h q ↔ G T (fin [.t 6, .t 7] (some []) h.next q) c_slices_choosePivotOrdered_int [] (envOf l) h := WC_G T_slices_choosePivotOrdered_int
@[simp] def g0_slices_reverseRangeOrdered_int := G_unf c0_slices_reverseRangeOrdered_int.eq_1
@[simp] def g1_slices_reverseRangeOrdered_int := G_unf c1_slices_reverseRangeOrdered_int.eq_1
@[simp] def g_slices_reverseRangeOrdered_int := G_unf c_slices_reverseRangeOrdered_int.eq_1
theorem w_slices_reverseRangeOrdered_int : WC T n_slices_reverseRangeOrdered_int l h q ↔ G T (fin [] (some []) h.next q) c_slices_reverseRangeOrdered_int [] (envOf l) h := WC_G T_slices_reverseRangeOrdered_int
@[simp] def g0_slices_partialInsertionSortOrdered_int := G_unf c0_slices_partialInsertionSortOrdered_int.eq_1
@[simp] def g1_slices_partialInsertionSortOrdered_int := G_unf c1_slices_partialInsertionSortOrdered_int.eq_1
@[simp] def g2_slices_partialInsertionSortOrdered_int := G_unf c2_slices_partialInsertionSortOrdered_int.eq_1
@[simp] def g3_slices_partialInsertionSortOrdered_int := G_unf c3_slices_partialInsertionSortOrdered_int.eq_1
@[simp] def g4_slices_partialInsertionSortOrdered_int := G_unf c4_slices_partialInsertionSortOrdered_int.eq_1
@[simp] def g5_slices_partialInsertionSortOrdered_int := G_unf c5_slices_partialInsertionSortOrdered_int.eq_1
@[simp] def g6_slices_partialInsertionSortOrdered_int := G_unf c6_slices_partialInsertionSortOrdered_int.eq_1
@[simp] def g7_slices_partialInsertionSortOrdered_int := G_unf c7_slices_partialInsertionSortOrdered_int.eq_1
@[simp] def g8_slices_partialInsertionSortOrdered_int := G_unf c8_slices_partialInsertionSortOrdered_int.eq_1
@[simp] def g9_slices_partialInsertionSortOrdered_int := G_unf c9_slices_partialInsertionSortOrdered_int.eq_1
@[simp] def g10_slices_partialInsertionSortOrdered_int := G_unf c10_slices_partialInsertionSortOrdered_int.eq_1
@[simp] def g11_slices_partialInsertionSortOrdered_int := G_unf c11_slices_partialInsertionSortOrdered_int.eq_1
@[simp] def g_slices_partialInsertionSortOrdered_int := G_unf c_slices_partialInsertionSortOrdered_int.eq_1
theorem w_slices_partialInsertionSortOrdered_int : WC T n_slices_partialInsertionSortOrdered_int l h q ↔ G T (fin [.t 6] (some []) h.next q) c_slices_partialInsertionSortOrdered_int [] (envOf l) h := WC_G T_slices_partialInsertionSortOrdered_int
@[simp] def g0_cmp_Less_int := G_unf c0_cmp_Less_int.eq_1
@[simp] def g_cmp_Less_int := G_unf c_cmp_Less_int.eq_1
theorem w_cmp_Less_int : WC T n_cmp_Less_int l h q ↔ G T (fin [.t 4] (some []) h.next q) c_cmp_Less_int [] (envOf l) h := WC_G T_cmp_Less_int
@[simp] def g0_slices_partitionEqualOrdered_int := G_unf c0_slices_partitionEqualOrdered_int.eq_1
@[simp] def g1_slices_partitionEqualOrdered_int := G_unf c1_slices_partitionEqualOrdered_int.eq_1
@[simp] def g2_slices_partitionEqualOrdered_int := G_unf c2_slices_partitionEqualOrdered_int.eq_1
@[simp] def g3_slices_partitionEqualOrdered_int := G_unf c3_slices_partitionEqualOrdered_int.eq_1
@[simp] def g4_slices_partitionEqualOrdered_int := G_unf c4_slices_partitionEqualOrdered_int.eq_1
@[simp] def g5_slices_partitionEqualOrdered_int := G_unf c5_slices_partitionEqualOrdered_int.eq_1
@[simp] def g_slices_partitionEqualOrdered_int := G_unf c_slices_partitionEqualOrdered_int.eq_1
theorem w_slices_partitionEqualOrdered_int : WC T n_slices_partitionEqualOrdered_int l h q ↔ G T (fin [.t 8] (some []) h.next q) c_slices_partitionEqualOrdered_int [] (envOf l) h := WC_G T_slices_partitionEqualOrdered_int
@[simp] def g0_slices_partitionOrdered_int := G_unf c0_slices_partitionOrdered_int.eq_1
@[simp] def g1_slices_partitionOrdered_int := G_unf c1_slices_partitionOrdered_int.eq_1
@[simp] def g2_slices_partitionOrdered_int := G_unf c2_slices_partitionOrdered_int.eq_1
@[simp] def g3_slices_partitionOrdered_int := G_unf c3_slices_partitionOrdered_int.eq_1
@[simp] def g4_slices_partitionOrdered_int := G_unf c4_slices_partitionOrdered_int.eq_1
@[simp] def g5_slices_partitionOrdered_int := G_unf c5_slices_partitionOrdered_int.eq_1
@[simp] def g6_slices_partitionOrdered_int := G_unf c6_slices_partitionOrdered_int.eq_1
@[simp] def g7_slices_partitionOrdered_int := G_unf c7_slices_partitionOrdered_int.eq_1
@[simp] def g8_slices_partitionOrdered_int := G_unf c8_slices_partitionOrdered_int.eq_1
@[simp] def g9_slices_partitionOrdered_int := G_unf c9_slices_partitionOrdered_int.eq_1
@[simp] def g10_slices_partitionOrdered_int := G_unf c10_slices_partitionOrdered_int.eq_1
@[simp] def g11_slices_partitionOrdered_int := G_unf c11_slices_partitionOrdered_int.eq_1
@[simp] def g_slices_partitionOrdered_int := G_unf c_slices_partitionOrdered_int.eq_1
theorem w_slices_partitionOrdered_int : WC T n_slices_partitionOrdered_int l h q ↔ G T (fin [.t 8, .t 9] (some []) h.next q) c_slices_partitionOrdered_int [] (envOf l) h := WC_G T_slices_partitionOrdered_int
@[simp] def g0_math_bits_Len32 := G_unf c0_math_bits_Len32.eq_1
@[simp] def g1_math_bits_Len32 := G_unf c1_math_bits_Len32.eq_1
@[simp] def g2_math_bits_Len32 := G_unf c2_math_bits_Len32.eq_1
@[simp] def g_math_bits_Len32 := G_unf c_math_bits_Len32.eq_1
theorem w_math_bits_Len32 : WC T n_math_bits_Len32 l h q ↔ G T (fin [.t 2] (some []) h.next q) c_math_bits_Len32 [] (envOf l) h := WC_G T_math_bits_Len32
@[simp] def g0_math_bits_Len64 := G_unf c0_math_bits_Len64.eq_1
@[simp] def g1_math_bits_Len64 := G_unf c1_math_bits_Len64.eq_1
@[simp] def g2_math_bits_Len64 := G_unf c2_math_bits_Len64.eq_1
@[simp] def g3_math_bits_Len64 := G_unf c3_math_bits_Len64.eq_1
@[simp] def g_math_bits_Len64 := G_unf c_math_bits_Len64.eq_1
theorem w_math_bits_Len64 : WC T n_math_bits_Len64 l h q ↔ G T (fin [.t 2] (some []) h.next q) c_math_bits_Len64 [] (envOf l) h := WC_G T_math_bits_Len64
@[simp] def g0_slices_IndexFunc_ir_Op_ir_Op := G_unf c0_slices_IndexFunc_ir_Op_ir_Op.eq_1
@[simp] def g1_slices_IndexFunc_ir_Op_ir_Op := G_unf c1_slices_IndexFunc_ir_Op_ir_Op.eq_1
@[simp] def g_slices_IndexFunc_ir_Op_ir_Op := G_unf c_slices_IndexFunc_ir_Op_ir_Op.eq_1
theorem w_slices_IndexFunc_ir_Op_ir_Op : WC T n_slices_IndexFunc_ir_Op_ir_Op l h q ↔ G T (fin [.t 4] (some []) h.next q) c_slices_IndexFunc_ir_Op_ir_Op [] (envOf l) h := WC_G T_slices_IndexFunc_ir_Op_ir_Op
@[simp] def g0_word_Mul := G_unf c0_word_Mul.eq_1
@[simp] def g1_word_Mul := G_unf c1_word_Mul.eq_1
@[simp] def g_word_Mul := G_unf c_word_Mul.eq_1
theorem w_word_Mul : WC T n_word_Mul l h q ↔ G T (fin [.t 6, .t 7] (some []) h.next q) c_word_Mul [] (envOf l) h := WC_G T_word_Mul
@[simp] def g0_word_Div := G_unf c0_word_Div.eq_1
@[simp] def g1_word_Div := G_unf c1_word_Div.eq_1
@[simp] def g2_word_Div := G_unf c2_word_Div.eq_1
@[simp] def g3_word_Div := G_unf c3_word_Div.eq_1
@[simp] def g_word_Div := G_unf c_word_Div.eq_1
theorem w_word_Div : WC T n_word_Div l h q ↔ G T (fin [.t 6, .t 7] (some []) h.next q) c_word_Div [] (envOf l) h := WC_G T_word_Div
@[simp] def g0_ir_of := G_unf c0_ir_of.eq_1
@[simp] def g1_ir_of := G_unf c1_ir_of.eq_1
@[simp] def g2_ir_of := G_unf c2_ir_of.eq_1
@[simp] def g3_ir_of := G_unf c3_ir_of.eq_1
@[simp] def g4_ir_of := G_unf c4_ir_of.eq_1
@[simp] def g5_ir_of := G_unf c5_ir_of.eq_1
@[simp] def g6_ir_of := G_unf c6_ir_of.eq_1
@[simp] def g7_ir_of := G_unf c7_ir_of.eq_1
@[simp] def g8_ir_of := G_unf c8_ir_of.eq_1
@[simp] def g9_ir_of := G_unf c9_ir_of.eq_1
@[simp] def g10_ir_of := G_unf c10_ir_of.eq_1
@[simp] def g_ir_of := G_unf c_ir_of.eq_1
theorem w_ir_of : WC T n_ir_of l h q ↔ G T (fin [.t 6] (some []) h.next q) c_ir_of [] (envOf l) h := WC_G T_ir_of
@[simp] def g0_slices_siftDownOrdered_int := G_unf c0_slices_siftDownOrdered_int.eq_1
@[simp] def g1_slices_siftDownOrdered_int := G_unf c1_slices_siftDownOrdered_int.eq_1
@[simp] def g2_slices_siftDownOrdered_int := G_unf c2_slices_siftDownOrdered_int.eq_1
@[simp] def g3_slices_siftDownOrdered_int := G_unf c3_slices_siftDownOrdered_int.eq_1
@[simp] def g_slices_siftDownOrdered_int := G_unf c_slices_siftDownOrdered_int.eq_1
theorem w_slices_siftDownOrdered_int : WC T n_slices_siftDownOrdered_int l h q ↔ G T (fin [] (some []) h.next q) c_slices_siftDownOrdered_int [] (envOf l) h := WC_G T_slices_siftDownOrdered_int
@[simp] def g_slices_nextPowerOfTwo := G_unf c_slices_nextPowerOfTwo.eq_1
theorem w_slices_nextPowerOfTwo : WC T n_slices_nextPowerOfTwo l h q ↔ G T (fin [.t 2] (some []) h.next q) c_slices_nextPowerOfTwo [] (envOf l) h := WC_G T_slices_nextPowerOfTwo
@[simp] def g0_slices_xorshift_Next := G_unf c0_slices_xorshift_Next.eq_1
@[simp] def g1_slices_xorshift_Next := G_unf c1_slices_xorshift_Next.eq_1
@[simp] def g2_slices_xorshift_Next := G_unf c2_slices_xorshift_Next.eq_1
@[simp] def g_slices_xorshift_Next := G_unf c_slices_xorshift_Next.eq_1
theorem w_slices_xorshift_Next : WC T n_slices_xorshift_Next l h q ↔ G T (fin [.t 2] (some []) h.next q) c_slices_xorshift_Next [] (envOf l) h := WC_G T_slices_xorshift_Next
@[simp] def g0_slices_medianAdjacentOrdered_int := G_unf c0_slices_medianAdjacentOrdered_int.eq_1
@[simp] def g_slices_medianAdjacentOrdered_int := G_unf c_slices_medianAdjacentOrdered_int.eq_1
theorem w_slices_medianAdjacentOrdered_int : WC T n_slices_medianAdjacentOrdered_int l h q ↔ G T (fin [.t 6] (some []) h.next q) c_slices_medianAdjacentOrdered_int [] (envOf l) h := WC_G T_slices_medianAdjacentOrdered_int
@[simp] def g0_slices_medianOrdered_int := G_unf c0_slices_medianOrdered_int.eq_1
@[simp] def g1_slices_medianOrdered_int := G_unf c1_slices_medianOrdered_int.eq_1
@[simp] def g2_slices_medianOrdered_int := G_unf c2_slices_medianOrdered_int.eq_1
@[simp] def g_slices_medianOrdered_int := G_unf c_slices_medianOrdered_int.eq_1
theorem w_slices_medianOrdered_int : WC T n_slices_medianOrdered_int l h q ↔ G T (fin [.t 10] (some []) h.next q) c_slices_medianOrdered_int [] (envOf l) h := WC_G T_slices_medianOrdered_int
@[simp] def g_cmp_isNaN_int := G_unf c_cmp_isNaN_int.eq_1
theorem w_cmp_isNaN_int : WC T n_cmp_isNaN_int l h q ↔ G T (fin [.t 2] (some []) h.next q) c_cmp_isNaN_int [] (envOf l) h := WC_G T_cmp_isNaN_int
@[simp] def g_ir_one := G_unf c_ir_one.eq_1
theorem w_ir_one : WC T n_ir_one l h q ↔ G T (fin [.t 2] (some []) h.next q) c_ir_one [] (envOf l) h := WC_G T_ir_one
@[simp] def g0_word_Less := G_unf c0_word_Less.eq_1
@[simp] def g_word_Less := G_unf c_word_Less.eq_1
theorem w_word_Less : WC T n_word_Less l h q ↔ G T (fin [.t 6] (some []) h.next q) c_word_Less [] (envOf l) h := WC_G T_word_Less
@[simp] def g_word_Clz := G_unf c_word_Clz.eq_1
theorem w_word_Clz : WC T n_word_Clz l h q ↔ G T (fin [.t 2] (some []) h.next q) c_word_Clz [] (envOf l) h := WC_G T_word_Clz
@[simp] def g_word_Clo := G_unf c_word_Clo.eq_1
theorem w_word_Clo : WC T n_word_Clo l h q ↔ G T (fin [.t 2] (some []) h.next q) c_word_Clo [] (envOf l) h := WC_G T_word_Clo
@[simp] def g0_slices_order2Ordered_int := G_unf c0_slices_order2Ordered_int.eq_1
@[simp] def g1_slices_order2Ordered_int := G_unf c1_slices_order2Ordered_int.eq_1
@[simp] def g_slices_order2Ordered_int := G_unf c_slices_order2Ordered_int.eq_1
theorem w_slices_order2Ordered_int : WC T n_slices_order2Ordered_int l h q ↔ G T (fin [.t 8, .t 9] (some []) h.next q) c_slices_order2Ordered_int [] (envOf l) h := WC_G T_slices_order2Ordered_int
@[simp] def g_math_bits_LeadingZeros32 := G_unf c_math_bits_LeadingZeros32.eq_1
theorem w_math_bits_LeadingZeros32 : WC T n_math_bits_LeadingZeros32 l h q ↔ G T (fin [.t 2] (some []) h.next q) c_math_bits_LeadingZeros32 [] (envOf l) h := WC_G T_math_bits_LeadingZeros32
end
theorem tab : TabOK Tryz.prog (compAny Tryz.prog) T :=
  tab_ins h_pianolalaw21_BlockSame <|
  tab_ins h_pianolalaw21_memory <|
  tab_ins h_pianolalaw21_known <|
  tab_ins h_pianolakeep_Image <|
  tab_ins h_pianolabook_Within <|
  tab_ins h_block_Find <|
  tab_ins h_ram_Ram_Load <|
  tab_ins h_ram_Ram_Store <|
  tab_ins h_block_Same <|
  tab_ins h_ram_New <|
  tab_ins h_pianolaref2_New <|
  tab_ins h_ram_Ram_Put <|
  tab_ins h_pianolaref2_Ram_Put <|
  tab_ins h_block_Block_Page <|
  tab_ins h_pianolakeep_put <|
  tab_ins h_pianolakeep_word <|
  tab_ins h_pianolakeep_Code <|
  tab_ins h_ram_Ram_Size <|
  tab_ins h_decode_Of <|
  tab_ins h_decode_Class <|
  tab_ins h_block_Block_add <|
  tab_ins h_ram_Ram_even <|
  tab_ins h_ram_Ram_touch <|
  tab_ins h_ram_Ram_there <|
  tab_ins h_pianolaref2_Ram_In <|
  tab_ins h_pianolaref2_Ram_touch <|
  tab_ins h_pianolaref3_Word <|
  tab_ins h_pianolakeep_Plain <|
  tab_ins h_pianolakeep_Any <|
  tab_ins h_pianolakeep_Inst <|
  tab_ins h_decode_with <|
  tab_ins h_decode_kind <|
  tab_ins h_opt_Opt <|
  tab_ins h_lift_Of <|
  tab_ins h_pianolaref3_has <|
  tab_ins h_pianolaref3_Right <|
  tab_ins h_pianolaref3_find <|
  tab_ins h_pianolakeep_near <|
  tab_ins h_pianolakeep_only <|
  tab_ins h_decode_fields <|
  tab_ins h_decode_special <|
  tab_ins h_decode_regimm <|
  tab_ins h_decode_cop0 <|
  tab_ins h_decode_special2 <|
  tab_ins h_decode_major <|
  tab_ins h_opt_Dead <|
  tab_ins h_opt_Fold <|
  tab_ins h_lift_Is <|
  tab_ins h_lift_kind <|
  tab_ins h_alu_Into <|
  tab_ins h_lift_imm <|
  tab_ins h_pianolaref3_special <|
  tab_ins h_pianolaref3_others <|
  tab_ins h_pianolaref3_plain <|
  tab_ins h_pianolaref3_small <|
  tab_ins h_decode_table <|
  tab_ins h_opt_right <|
  tab_ins h_ir_Writes <|
  tab_ins h_slices_ContainsFunc_int_int <|
  tab_ins h_opt_Dead_1 <|
  tab_ins h_opt_sure <|
  tab_ins h_ir_Reads <|
  tab_ins h_slices_Reverse_ir_Op_ir_Op <|
  tab_ins h_opt_facts_fold <|
  tab_ins h_opt_facts_done <|
  tab_ins h_decode_Right <|
  tab_ins h_alu_Is <|
  tab_ins h_word_Sign <|
  tab_ins h_ir_Right <|
  tab_ins h_slices_IndexFunc_int_int <|
  tab_ins h_slices_Sort_int_int <|
  tab_ins h_slices_Compact_int_int <|
  tab_ins h_opt_facts_knows <|
  tab_ins h_ir_Run <|
  tab_ins h_decode_put <|
  tab_ins h_word_Sar <|
  tab_ins h_slices_pdqsortOrdered_int <|
  tab_ins h_math_bits_Len <|
  tab_ins h_slices_ContainsFunc_ir_Op_ir_Op <|
  tab_ins h_ir_Run_1 <|
  tab_ins h_ir_Regs_do <|
  tab_ins h_slices_insertionSortOrdered_int <|
  tab_ins h_slices_heapSortOrdered_int <|
  tab_ins h_slices_breakPatternsOrdered_int <|
  tab_ins h_slices_choosePivotOrdered_int <|
  tab_ins h_slices_reverseRangeOrdered_int <|
  tab_ins h_slices_partialInsertionSortOrdered_int <|
  tab_ins h_cmp_Less_int <|
  tab_ins h_slices_partitionEqualOrdered_int <|
  tab_ins h_slices_partitionOrdered_int <|
  tab_ins h_math_bits_Len32 <|
  tab_ins h_math_bits_Len64 <|
  tab_ins h_slices_IndexFunc_ir_Op_ir_Op <|
  tab_ins h_word_Mul <|
  tab_ins h_word_Div <|
  tab_ins h_ir_of <|
  tab_ins h_slices_siftDownOrdered_int <|
  tab_ins h_slices_nextPowerOfTwo <|
  tab_ins h_slices_xorshift_Next <|
  tab_ins h_slices_medianAdjacentOrdered_int <|
  tab_ins h_slices_medianOrdered_int <|
  tab_ins h_cmp_isNaN_int <|
  tab_ins h_ir_one <|
  tab_ins h_word_Less <|
  tab_ins h_word_Clz <|
  tab_ins h_word_Clo <|
  tab_ins h_slices_order2Ordered_int <|
  tab_ins h_math_bits_LeadingZeros32 <|
  tab_none
end Go.Proofs.YtmgoleiafiffoaaGreat.Cd
