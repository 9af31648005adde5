/- Texts of one kind, one behind the other. -/
import Derived.Test.YtjobkhnanbkcjaaProg
import Derived.KernelRfl
import Derived.Test.YtjobkhnanbkcjaaMb0
/- The code of the functions that are reached, as the interpreter reads it. -/
set_option maxRecDepth 100000
set_option linter.defProp false
namespace Go.Proofs.Ytjobkhnanbkcjaa.Cd
open Go Go.Dx
def n_pianolalaw18_IrRows : Nat := 3
def n_pianolalaw18_IrNumbers : Nat := 4
def n_pianolalaw18_IrTells : Nat := 5
def n_pianolalaw18_IrCells : Nat := 6
def n_pianolalaw20_OptNumbers : Nat := 7
def n_pianolalaw20_OptSame : Nat := 8
def n_pianolalaw20_OptDead : Nat := 9
def n_pianolalaw20_OptFolds : Nat := 10
def n_pianolalaw20_OptLifts : Nat := 11
def n_pianolalaw18_near : Nat := 12
def n_pianolalaw18_regs : Nat := 13
def n_pianolabook_Within : Nat := 14
def n_ir_Run : Nat := 15
def n_pianolalaw18_known : Nat := 16
def n_pianolalaw18_tells : Nat := 17
def n_pianolalaw18_runs : Nat := 18
def n_ir_Reads : Nat := 19
def n_ir_Writes : Nat := 20
def n_pianolalaw20_same : Nat := 21
def n_opt_Opt : Nat := 22
def n_opt_Dead : Nat := 23
def n_opt_Fold : Nat := 24
def n_pianolalaw20_live : Nat := 25
def n_pianolalaw20_known : Nat := 26
def n_pianolalaw20_near : Nat := 27
def n_pianolabook_Same_ir_Op : Nat := 28
def n_pianolalaw18_cell : Nat := 29
def n_slices_ContainsFunc_ir_Op_ir_Op : Nat := 30
def n_ir_Run_1 : Nat := 31
def n_ir_Right : Nat := 32
def n_ir_Regs_do : Nat := 33
def n_pianolabook_Same_int : Nat := 34
def n_pianolaref18_Right : Nat := 35
def n_pianolaref18_Reads : Nat := 36
def n_pianolaref18_Writes : Nat := 37
def n_pianolaref18_Run : Nat := 38
def n_pianolabook_Same_uint32 : Nat := 39
def n_slices_Sort_int_int : Nat := 40
def n_slices_Compact_int_int : Nat := 41
def n_pianolalaw20_leaves : Nat := 42
def n_opt_right : Nat := 43
def n_slices_ContainsFunc_int_int : Nat := 44
def n_opt_Dead_1 : Nat := 45
def n_opt_sure : Nat := 46
def n_slices_Reverse_ir_Op_ir_Op : Nat := 47
def n_opt_facts_fold : Nat := 48
def n_opt_facts_done : Nat := 49
def n_pianolalaw20_cell : Nat := 50
def n_slices_IndexFunc_ir_Op_ir_Op : Nat := 51
def n_word_Mul : Nat := 52
def n_word_Div : Nat := 53
def n_ir_of : Nat := 54
def n_pianolaref18_sorted : Nat := 55
def n_pianolaref18_One : Nat := 56
def n_slices_pdqsortOrdered_int : Nat := 57
def n_math_bits_Len : Nat := 58
def n_slices_IndexFunc_int_int : Nat := 59
def n_opt_facts_knows : Nat := 60
def n_word_Sar : Nat := 61
def n_ir_one : Nat := 62
def n_word_Less : Nat := 63
def n_word_Clz : Nat := 64
def n_word_Clo : Nat := 65
def n_pianolaref1_Sar : Nat := 66
def n_pianolaref18_bit : Nat := 67
def n_pianolaref1_Less : Nat := 68
def n_pianolaref1_Mul : Nat := 69
def n_pianolaref1_Clz : Nat := 70
def n_pianolaref1_Clo : Nat := 71
def n_pianolaref1_Div : Nat := 72
def n_slices_insertionSortOrdered_int : Nat := 73
def n_slices_heapSortOrdered_int : Nat := 74
def n_slices_breakPatternsOrdered_int : Nat := 75
def n_slices_choosePivotOrdered_int : Nat := 76
def n_slices_reverseRangeOrdered_int : Nat := 77
def n_slices_partialInsertionSortOrdered_int : Nat := 78
def n_cmp_Less_int : Nat := 79
def n_slices_partitionEqualOrdered_int : Nat := 80
def n_slices_partitionOrdered_int : Nat := 81
def n_math_bits_Len32 : Nat := 82
def n_math_bits_Len64 : Nat := 83
def n_math_bits_LeadingZeros32 : Nat := 84
def n_pianolaref1_wide : Nat := 85
def n_slices_siftDownOrdered_int : Nat := 86
def n_slices_nextPowerOfTwo : Nat := 87
def n_slices_xorshift_Next : Nat := 88
def n_slices_medianAdjacentOrdered_int : Nat := 89
def n_slices_medianOrdered_int : Nat := 90
def n_cmp_isNaN_int : Nat := 91
def n_slices_order2Ordered_int : Nat := 92
end Go.Proofs.Ytjobkhnanbkcjaa.Cd

/- The code of the functions that are reached, as the interpreter reads it. -/
set_option maxRecDepth 100000
set_option linter.defProp false
namespace Go.Proofs.Ytjobkhnanbkcjaa.Cd
open Go Go.Dx
/- pianola/pianolalaw18.IrRows -/
def c0_pianolalaw18_IrRows : C :=
 .seq (.ops [⟨some 48, none, .bsl 0 [] []⟩,
  ⟨some 49, none, .mov (.t 7)⟩,
  ⟨some 50, none, .app 5 40 (.t 48) (.t 49)⟩,
  ⟨some 51, none, .build [(.int .i64 0), (.int .i64 0), (.int .i64 0), (.int .i64 0), (.int .u32 0)] [(0, 1, (.c (.int .i64 23)))]⟩,
  ⟨some 52, none, .bsl 1 [(.int .i64 0), (.int .i64 0), (.int .i64 0), (.int .i64 0), (.int .u32 0)] [(0, 5, (.t 51))]⟩,
  ⟨some 53, none, .app 5 40 (.t 50) (.t 52)⟩,
  ⟨some 54, none, .call n_ir_Run [(.t 10), (.t 53)]⟩,
  ⟨some 55, none, .un .not (.t 54)⟩,
  ⟨some 56, none, .mov (.t 55)⟩,
  ⟨some 57, some (56, true), .ldn 40 (.t 10)⟩,
  ⟨some 58, some (56, true), .ldn 40 (.t 12)⟩,
  ⟨some 59, some (56, true), .eqt false (.agg [(0, 1, false, (.int .u32)), (1, 1, false, (.int .u32)), (2, 1, false, (.int .u32)), (3, 1, false, (.int .u32)), (4, 1, false, (.int .u32)), (5, 1, false, (.int .u32)), (6, 1, false, (.int .u32)), (7, 1, false, (.int .u32)), (8, 1, false, (.int .u32)), (9, 1, false, (.int .u32)), (10, 1, false, (.int .u32)), (11, 1, false, (.int .u32)), (12, 1, false, (.int .u32)), (13, 1, false, (.int .u32)), (14, 1, false, (.int .u32)), (15, 1, false, (.int .u32)), (16, 1, false, (.int .u32)), (17, 1, false, (.int .u32)), (18, 1, false, (.int .u32)), (19, 1, false, (.int .u32)), (20, 1, false, (.int .u32)), (21, 1, false, (.int .u32)), (22, 1, false, (.int .u32)), (23, 1, false, (.int .u32)), (24, 1, false, (.int .u32)), (25, 1, false, (.int .u32)), (26, 1, false, (.int .u32)), (27, 1, false, (.int .u32)), (28, 1, false, (.int .u32)), (29, 1, false, (.int .u32)), (30, 1, false, (.int .u32)), (31, 1, false, (.int .u32)), (32, 1, false, (.int .u32)), (33, 1, false, (.int .u32)), (34, 1, false, (.int .u32)), (35, 1, false, (.int .u32)), (36, 1, false, (.int .u32)), (37, 1, false, (.int .u32)), (38, 1, false, (.int .u32)), (39, 1, false, (.int .u32))]) (.t 57) (.t 58)⟩,
  ⟨some 60, none, .pick (.t 56) (.t 59) (.c (.bool false))⟩,
  ⟨some 61, none, .mov (.t 60)⟩,
  ⟨some 62, some (61, true), .call n_pianolalaw18_known []⟩,
  ⟨some 63, none, .pick (.t 61) (.t 62) (.c (.bool false))⟩,
  ⟨some 6, none, .mov (.t 63)⟩])
  (.ret)
def c1_pianolalaw18_IrRows : C :=
 .seq (.seq (.ops [⟨some 25, none, .mov (.t 7)⟩,
  ⟨some 26, none, .call n_ir_Run [(.t 8), (.t 25)]⟩,
  ⟨some 27, none, .un .not (.t 26)⟩,
  ⟨some 28, none, .mov (.t 27)⟩,
  ⟨some 29, some (28, false), .mov (.t 7)⟩,
  ⟨some 30, some (28, false), .mov (.t 11)⟩,
  ⟨some 31, some (28, false), .sl 5 (.t 29) none (some (.t 30)) none⟩,
  ⟨some 32, some (28, false), .call n_ir_Run [(.t 9), (.t 31)]⟩,
  ⟨some 33, some (28, false), .un .not (.t 32)⟩,
  ⟨some 34, none, .pick (.t 28) (.c (.bool true)) (.t 33)⟩,
  ⟨some 35, none, .mov (.t 34)⟩,
  ⟨some 36, some (35, false), .mov (.t 7)⟩,
  ⟨some 37, some (35, false), .mov (.t 11)⟩,
  ⟨some 38, some (35, false), .sl 5 (.t 36) (some (.t 37)) none none⟩,
  ⟨some 39, some (35, false), .call n_ir_Run [(.t 9), (.t 38)]⟩,
  ⟨some 40, some (35, false), .un .not (.t 39)⟩,
  ⟨some 41, none, .pick (.t 35) (.c (.bool true)) (.t 40)⟩,
  ⟨some 42, none, .mov (.t 41)⟩,
  ⟨some 43, some (42, false), .ldn 40 (.t 8)⟩,
  ⟨some 44, some (42, false), .ldn 40 (.t 9)⟩,
  ⟨some 45, some (42, false), .eqt true (.agg [(0, 1, false, (.int .u32)), (1, 1, false, (.int .u32)), (2, 1, false, (.int .u32)), (3, 1, false, (.int .u32)), (4, 1, false, (.int .u32)), (5, 1, false, (.int .u32)), (6, 1, false, (.int .u32)), (7, 1, false, (.int .u32)), (8, 1, false, (.int .u32)), (9, 1, false, (.int .u32)), (10, 1, false, (.int .u32)), (11, 1, false, (.int .u32)), (12, 1, false, (.int .u32)), (13, 1, false, (.int .u32)), (14, 1, false, (.int .u32)), (15, 1, false, (.int .u32)), (16, 1, false, (.int .u32)), (17, 1, false, (.int .u32)), (18, 1, false, (.int .u32)), (19, 1, false, (.int .u32)), (20, 1, false, (.int .u32)), (21, 1, false, (.int .u32)), (22, 1, false, (.int .u32)), (23, 1, false, (.int .u32)), (24, 1, false, (.int .u32)), (25, 1, false, (.int .u32)), (26, 1, false, (.int .u32)), (27, 1, false, (.int .u32)), (28, 1, false, (.int .u32)), (29, 1, false, (.int .u32)), (30, 1, false, (.int .u32)), (31, 1, false, (.int .u32)), (32, 1, false, (.int .u32)), (33, 1, false, (.int .u32)), (34, 1, false, (.int .u32)), (35, 1, false, (.int .u32)), (36, 1, false, (.int .u32)), (37, 1, false, (.int .u32)), (38, 1, false, (.int .u32)), (39, 1, false, (.int .u32))]) (.t 43) (.t 44)⟩,
  ⟨some 46, none, .pick (.t 42) (.c (.bool true)) (.t 45)⟩])
  (.cond (.t 46)
  (.seq (.ops [⟨some 6, none, .mov (.c (.bool false))⟩])
  (.ret))
  (.skip)))
  (.seq (.ops [⟨some 47, none, .ldn 40 (.t 10)⟩,
  ⟨some 12, none, .new (List.replicate 40 (.int .u32 0))⟩,
  ⟨none, none, .stn 40 (.t 12) (.t 47)⟩])
  (c0_pianolalaw18_IrRows))
def c2_pianolalaw18_IrRows : C :=
 .seq (.ops [⟨some 15, none, .mov (.t 0)⟩,
  ⟨some 16, none, .call n_pianolalaw18_regs [(.t 15)]⟩,
  ⟨some 17, none, .mov (.t 0)⟩,
  ⟨some 18, none, .call n_pianolalaw18_regs [(.t 17)]⟩,
  ⟨some 19, none, .mov (.t 0)⟩,
  ⟨some 20, none, .call n_pianolalaw18_regs [(.t 19)]⟩,
  ⟨some 8, none, .new (List.replicate 40 (.int .u32 0))⟩,
  ⟨some 9, none, .new (List.replicate 40 (.int .u32 0))⟩,
  ⟨some 10, none, .new (List.replicate 40 (.int .u32 0))⟩,
  ⟨none, none, .stn 40 (.t 8) (.t 16)⟩,
  ⟨none, none, .stn 40 (.t 9) (.t 18)⟩,
  ⟨none, none, .stn 40 (.t 10) (.t 20)⟩])
  (.seq (.ops [⟨some 21, none, .mov (.t 2)⟩,
  ⟨some 22, none, .mov (.t 7)⟩,
  ⟨some 23, none, .len 1 (.t 22)⟩,
  ⟨some 24, none, .call n_pianolabook_Within [(.t 21), (.c (.int .i64 0)), (.t 23)]⟩,
  ⟨some 11, none, .mov (.t 24)⟩])
  (c1_pianolalaw18_IrRows))
def c_pianolalaw18_IrRows : C :=
 .seq (.ops [⟨some 6, none, .mov (.c (.bool false))⟩])
  (.seq (.ops [⟨some 13, none, .mov (.t 1)⟩,
  ⟨some 14, none, .call n_pianolalaw18_near [(.t 13), (.c (.int .i64 30))]⟩,
  ⟨some 7, none, .mov (.t 14)⟩])
  (c2_pianolalaw18_IrRows))
def f_pianolalaw18_IrRows : F := ⟨c_pianolalaw18_IrRows, [.t 6], some []⟩
theorem h_pianolalaw18_IrRows : compF Try.prog (compAny Try.prog) n_pianolalaw18_IrRows = some (f_pianolalaw18_IrRows.body, f_pianolalaw18_IrRows.res) := by kernel_rfl
/- pianola/pianolalaw18.IrNumbers -/
def c0_pianolalaw18_IrNumbers : C :=
 .ops [⟨some 15, none, .mov (.t 1)⟩,
  ⟨some 16, none, .mov (.t 2)⟩,
  ⟨some 17, none, .bsl 8 [(.int .u32 0), (.int .u32 0), (.int .u32 0), (.int .u32 0), (.int .u32 0), (.int .u32 0), (.int .u32 0), (.int .u32 0)] [(0, 1, (.c (.int .u32 0))), (1, 1, (.c (.int .u32 1))), (2, 1, (.c (.int .u32 31))), (3, 1, (.c (.int .u32 32))), (4, 1, (.c (.int .u32 2147483647))), (5, 1, (.c (.int .u32 2147483648))), (6, 1, (.c (.int .u32 4294967295))), (7, 1, (.c (.int .u32 5)))]⟩,
  ⟨some 18, none, .mov (.t 2)⟩,
  ⟨some 19, none, .bin .rem (.t 18) (.c (.int .i64 8))⟩,
  ⟨some 20, none, .ia 1 (.t 17) (.t 19)⟩,
  ⟨some 21, none, .ld (.t 20)⟩,
  ⟨some 22, none, .ia 1 (.t 15) (.t 16)⟩,
  ⟨none, none, .st (.t 22) (.t 21)⟩]
def c1_pianolalaw18_IrNumbers : C :=
 .seq (.ops [⟨some 13, none, .bin .lss (.t 12) (.t 11)⟩])
  (.seq (.cond (.t 13)
  (.skip)
  (.exit 0))
  (.seq (.block 1
  (.seq (.ops [⟨some 14, none, .mov (.t 12)⟩,
  ⟨some 2, none, .mov (.t 14)⟩])
  (c0_pianolalaw18_IrNumbers)))
  (.ops [⟨some 23, none, .bin .add (.t 12) (.c (.int .i64 1))⟩,
  ⟨some 12, none, .mov (.t 23)⟩])))
def c2_pianolalaw18_IrNumbers : C :=
 .seq (.ops [⟨some 47, none, .ldn 5 (.t 8)⟩,
  ⟨some 48, none, .call n_pianolalaw18_tells [(.t 47)]⟩,
  ⟨some 49, none, .un .not (.t 48)⟩,
  ⟨some 50, none, .mov (.t 49)⟩,
  ⟨some 51, some (50, false), .mov (.t 1)⟩,
  ⟨some 52, some (50, false), .ldn 5 (.t 8)⟩,
  ⟨some 53, some (50, false), .bsl 1 [(.int .i64 0), (.int .i64 0), (.int .i64 0), (.int .i64 0), (.int .u32 0)] [(0, 5, (.t 52))]⟩,
  ⟨some 54, some (50, false), .call n_pianolalaw18_runs [(.t 51), (.t 53)]⟩,
  ⟨some 55, some (50, false), .un .not (.t 54)⟩,
  ⟨some 56, none, .pick (.t 50) (.c (.bool true)) (.t 55)⟩,
  ⟨some 57, none, .mov (.t 56)⟩,
  ⟨some 58, some (57, false), .mov (.t 1)⟩,
  ⟨some 59, some (57, false), .build [(.int .i64 0), (.int .i64 0), (.int .i64 0), (.int .i64 0), (.int .u32 0)] [(0, 1, (.c (.int .i64 1))), (1, 1, (.c (.int .i64 2))), (4, 1, (.c (.int .u32 9)))]⟩,
  ⟨some 60, some (57, false), .ldn 5 (.t 8)⟩,
  ⟨some 61, some (57, false), .bsl 2 [(.int .i64 0), (.int .i64 0), (.int .i64 0), (.int .i64 0), (.int .u32 0), (.int .i64 0), (.int .i64 0), (.int .i64 0), (.int .i64 0), (.int .u32 0)] [(0, 5, (.t 59)), (5, 5, (.t 60))]⟩,
  ⟨some 62, some (57, false), .call n_pianolalaw18_runs [(.t 58), (.t 61)]⟩,
  ⟨some 63, some (57, false), .un .not (.t 62)⟩,
  ⟨some 64, none, .pick (.t 57) (.c (.bool true)) (.t 63)⟩])
  (.cond (.t 64)
  (.seq (.ops [⟨some 0, none, .mov (.c (.bool false))⟩])
  (.ret))
  (.skip))
def c3_pianolalaw18_IrNumbers : C :=
 .seq (.ops [⟨some 42, none, .mov (.t 3)⟩,
  ⟨some 43, none, .mov (.t 7)⟩,
  ⟨some 44, none, .mov (.t 4)⟩,
  ⟨some 45, none, .mov (.t 5)⟩,
  ⟨some 46, none, .build [(.int .i64 0), (.int .i64 0), (.int .i64 0), (.int .i64 0), (.int .u32 0)] [(0, 1, (.t 42)), (1, 1, (.t 43)), (2, 1, (.t 44)), (3, 1, (.t 45)), (4, 1, (.c (.int .u32 3735928559)))]⟩,
  ⟨some 8, none, .new [(.int .i64 0), (.int .i64 0), (.int .i64 0), (.int .i64 0), (.int .u32 0)]⟩,
  ⟨none, none, .stn 5 (.t 8) (.t 46)⟩])
  (c2_pianolalaw18_IrNumbers)
def c4_pianolalaw18_IrNumbers : C :=
 .seq (.ops [⟨some 39, none, .bin .lss (.t 38) (.t 37)⟩])
  (.seq (.cond (.t 39)
  (.skip)
  (.exit 8))
  (.seq (.block 9
  (.seq (.ops [⟨some 40, none, .ia 1 (.t 36) (.t 38)⟩,
  ⟨some 41, none, .ld (.t 40)⟩,
  ⟨some 7, none, .mov (.t 41)⟩])
  (c3_pianolalaw18_IrNumbers)))
  (.ops [⟨some 65, none, .bin .add (.t 38) (.c (.int .i64 1))⟩,
  ⟨some 38, none, .mov (.t 65)⟩])))
def c5_pianolalaw18_IrNumbers : C :=
 .seq (.block 7
  (.seq (.ops [⟨some 36, none, .bsl 6 [(.int .i64 0), (.int .i64 0), (.int .i64 0), (.int .i64 0), (.int .i64 0), (.int .i64 0)] [(0, 1, (.c (.int .i64 0))), (1, 1, (.c (.int .i64 3))), (2, 1, (.c (.int .i64 32))), (3, 1, (.c (.int .i64 39))), (4, 1, (.c (.int .i64 (-1)))), (5, 1, (.c (.int .i64 40)))]⟩,
  ⟨some 37, none, .len 1 (.t 36)⟩,
  ⟨some 38, none, .mov (.c (.int .i64 0))⟩])
  (.block 8
  (.loop c4_pianolalaw18_IrNumbers))))
  (.ops [⟨some 34, none, .mov (.t 5)⟩,
  ⟨some 35, none, .bin .add (.t 34) (.c (.int .i64 1))⟩,
  ⟨some 5, none, .mov (.t 35)⟩])
def c6_pianolalaw18_IrNumbers : C :=
 .seq (.seq (.ops [⟨some 32, none, .mov (.t 5)⟩,
  ⟨some 33, none, .bin .lss (.t 32) (.c (.int .i64 9))⟩])
  (.cond (.t 33)
  (.skip)
  (.exit 6)))
  (c5_pianolalaw18_IrNumbers)
def c7_pianolalaw18_IrNumbers : C :=
 .seq (.seq (.ops [⟨some 28, none, .mov (.t 4)⟩,
  ⟨some 29, none, .bin .lss (.t 28) (.c (.int .i64 9))⟩])
  (.cond (.t 29)
  (.skip)
  (.exit 4)))
  (.seq (.block 5
  (.seq (.ops [⟨some 5, none, .mov (.c (.int .i64 0))⟩])
  (.block 6
  (.loop c6_pianolalaw18_IrNumbers))))
  (.ops [⟨some 30, none, .mov (.t 4)⟩,
  ⟨some 31, none, .bin .add (.t 30) (.c (.int .i64 1))⟩,
  ⟨some 4, none, .mov (.t 31)⟩]))
def c8_pianolalaw18_IrNumbers : C :=
 .seq (.seq (.ops [⟨some 24, none, .mov (.t 3)⟩,
  ⟨some 25, none, .bin .lss (.t 24) (.c (.int .i64 25))⟩])
  (.cond (.t 25)
  (.skip)
  (.exit 2)))
  (.seq (.block 3
  (.seq (.ops [⟨some 4, none, .mov (.c (.int .i64 0))⟩])
  (.block 4
  (.loop c7_pianolalaw18_IrNumbers))))
  (.ops [⟨some 26, none, .mov (.t 3)⟩,
  ⟨some 27, none, .bin .add (.t 26) (.c (.int .i64 1))⟩,
  ⟨some 3, none, .mov (.t 27)⟩]))
def c9_pianolalaw18_IrNumbers : C :=
 .seq (.seq (.ops [⟨some 3, none, .mov (.c (.int .i64 (-1)))⟩])
  (.block 2
  (.loop c8_pianolalaw18_IrNumbers)))
  (.seq (.ops [⟨some 66, none, .mov (.t 1)⟩,
  ⟨some 67, none, .call n_pianolalaw18_runs [(.t 66), (.c (.slice none 0 0))]⟩,
  ⟨some 68, none, .mov (.t 67)⟩,
  ⟨some 69, some (68, true), .call n_pianolalaw18_known []⟩,
  ⟨some 70, none, .pick (.t 68) (.t 69) (.c (.bool false))⟩,
  ⟨some 0, none, .mov (.t 70)⟩])
  (.ret))
def c_pianolalaw18_IrNumbers : C :=
 .seq (.ops [⟨some 0, none, .mov (.c (.bool false))⟩])
  (.seq (.ops [⟨some 9, none, .mks [(.int .u32 0)] 4 (.c (.int .i64 40)) (.c (.int .i64 40))⟩,
  ⟨some 1, none, .mov (.t 9)⟩])
  (.seq (.seq (.ops [⟨some 10, none, .mov (.t 1)⟩,
  ⟨some 11, none, .len 1 (.t 10)⟩,
  ⟨some 12, none, .mov (.c (.int .i64 0))⟩])
  (.block 0
  (.loop c1_pianolalaw18_IrNumbers)))
  (c9_pianolalaw18_IrNumbers)))
def f_pianolalaw18_IrNumbers : F := ⟨c_pianolalaw18_IrNumbers, [.t 0], some []⟩
theorem h_pianolalaw18_IrNumbers : compF Try.prog (compAny Try.prog) n_pianolalaw18_IrNumbers = some (f_pianolalaw18_IrNumbers.body, f_pianolalaw18_IrNumbers.res) := by kernel_rfl
/- pianola/pianolalaw18.IrTells -/
def c0_pianolalaw18_IrTells : C :=
 .seq (.block 1
  (.seq (.ops [⟨some 15, none, .mov (.t 5)⟩,
  ⟨some 16, none, .mov (.t 6)⟩,
  ⟨some 17, none, .ia 5 (.t 15) (.t 16)⟩,
  ⟨some 18, none, .ldn 5 (.t 17)⟩,
  ⟨some 19, none, .call n_pianolalaw18_tells [(.t 18)]⟩,
  ⟨some 20, none, .un .not (.t 19)⟩,
  ⟨some 21, none, .mov (.t 20)⟩,
  ⟨some 22, some (21, false), .mov (.t 1)⟩,
  ⟨some 23, some (21, false), .mov (.t 6)⟩,
  ⟨some 24, some (21, false), .ia 5 (.t 22) (.t 23)⟩,
  ⟨some 25, some (21, false), .ldn 5 (.t 24)⟩,
  ⟨some 26, some (21, false), .call n_pianolalaw18_tells [(.t 25)]⟩,
  ⟨some 27, some (21, false), .un .not (.t 26)⟩,
  ⟨some 28, none, .pick (.t 21) (.c (.bool true)) (.t 27)⟩])
  (.cond (.t 28)
  (.seq (.ops [⟨some 4, none, .mov (.c (.bool false))⟩])
  (.ret))
  (.skip))))
  (.ops [⟨some 13, none, .mov (.t 6)⟩,
  ⟨some 14, none, .bin .add (.t 13) (.c (.int .i64 1))⟩,
  ⟨some 6, none, .mov (.t 14)⟩])
def c1_pianolalaw18_IrTells : C :=
 .seq (.seq (.ops [⟨some 9, none, .mov (.t 6)⟩,
  ⟨some 10, none, .mov (.t 5)⟩,
  ⟨some 11, none, .len 1 (.t 10)⟩,
  ⟨some 12, none, .bin .lss (.t 9) (.t 11)⟩])
  (.cond (.t 12)
  (.skip)
  (.exit 0)))
  (c0_pianolalaw18_IrTells)
def c2_pianolalaw18_IrTells : C :=
 .seq (.ops [⟨some 34, none, .mov (.t 0)⟩,
  ⟨some 35, none, .mov (.t 5)⟩,
  ⟨some 36, none, .call n_pianolalaw18_runs [(.t 34), (.t 35)]⟩,
  ⟨some 37, none, .mov (.t 36)⟩,
  ⟨some 38, some (37, true), .mov (.t 0)⟩,
  ⟨some 39, some (37, true), .mov (.t 1)⟩,
  ⟨some 40, some (37, true), .call n_pianolalaw18_runs [(.t 38), (.t 39)]⟩,
  ⟨some 41, none, .pick (.t 37) (.t 40) (.c (.bool false))⟩,
  ⟨some 42, none, .mov (.t 41)⟩,
  ⟨some 43, some (42, true), .call n_pianolalaw18_known []⟩,
  ⟨some 44, none, .pick (.t 42) (.t 43) (.c (.bool false))⟩,
  ⟨some 4, none, .mov (.t 44)⟩])
  (.ret)
def c3_pianolalaw18_IrTells : C :=
 .seq (.seq (.ops [⟨some 29, none, .mov (.t 1)⟩,
  ⟨some 30, none, .len 1 (.t 29)⟩,
  ⟨some 31, none, .bin .gtr (.t 30) (.c (.int .i64 20))⟩])
  (.cond (.t 31)
  (.ops [⟨some 32, none, .mov (.t 1)⟩,
  ⟨some 33, none, .sl 5 (.t 32) none (some (.c (.int .i64 20))) none⟩,
  ⟨some 1, none, .mov (.t 33)⟩])
  (.skip)))
  (c2_pianolalaw18_IrTells)
def c_pianolalaw18_IrTells : C :=
 .seq (.ops [⟨some 4, none, .mov (.c (.bool false))⟩])
  (.seq (.ops [⟨some 7, none, .mov (.t 1)⟩,
  ⟨some 8, none, .call n_pianolalaw18_near [(.t 7), (.c (.int .i64 30))]⟩,
  ⟨some 5, none, .mov (.t 8)⟩])
  (.seq (.seq (.ops [⟨some 6, none, .mov (.c (.int .i64 0))⟩])
  (.block 0
  (.loop c1_pianolalaw18_IrTells)))
  (c3_pianolalaw18_IrTells)))
def f_pianolalaw18_IrTells : F := ⟨c_pianolalaw18_IrTells, [.t 4], some []⟩
theorem h_pianolalaw18_IrTells : compF Try.prog (compAny Try.prog) n_pianolalaw18_IrTells = some (f_pianolalaw18_IrTells.body, f_pianolalaw18_IrTells.res) := by kernel_rfl
/- pianola/pianolalaw18.IrCells -/
def c0_pianolalaw18_IrCells : C :=
 .seq (.seq (.ops [⟨some 34, none, .mov (.t 11)⟩,
  ⟨some 35, none, .bin .lss (.t 34) (.c (.int .i64 0))⟩,
  ⟨some 36, none, .mov (.t 35)⟩,
  ⟨some 37, some (36, false), .mov (.t 11)⟩,
  ⟨some 38, some (36, false), .bin .geq (.t 37) (.c (.int .i64 40))⟩,
  ⟨some 39, none, .pick (.t 36) (.c (.bool true)) (.t 38)⟩])
  (.cond (.t 39)
  (.seq (.ops [⟨some 6, none, .mov (.c (.bool false))⟩])
  (.ret))
  (.skip)))
  (.ops [⟨some 40, none, .mov (.t 11)⟩,
  ⟨some 41, none, .mov (.t 11)⟩,
  ⟨some 42, none, .iaa 40 1 (.t 8) (.t 41)⟩,
  ⟨some 43, none, .ld (.t 42)⟩,
  ⟨some 44, none, .iaa 40 1 (.t 9) (.t 40)⟩,
  ⟨none, none, .st (.t 44) (.t 43)⟩])
def c1_pianolalaw18_IrCells : C :=
 .seq (.ops [⟨some 31, none, .bin .lss (.t 30) (.t 29)⟩])
  (.seq (.cond (.t 31)
  (.skip)
  (.exit 0))
  (.seq (.block 1
  (.seq (.ops [⟨some 32, none, .ia 1 (.t 28) (.t 30)⟩,
  ⟨some 33, none, .ld (.t 32)⟩,
  ⟨some 11, none, .mov (.t 33)⟩])
  (c0_pianolalaw18_IrCells)))
  (.ops [⟨some 45, none, .bin .add (.t 30) (.c (.int .i64 1))⟩,
  ⟨some 30, none, .mov (.t 45)⟩])))
def c2_pianolalaw18_IrCells : C :=
 .ops [⟨some 69, none, .mov (.t 15)⟩,
  ⟨some 70, none, .mov (.t 69)⟩,
  ⟨some 71, some (70, false), .mov (.t 17)⟩,
  ⟨some 72, some (70, false), .mov (.t 14)⟩,
  ⟨some 73, some (70, false), .bin .eql (.t 71) (.t 72)⟩,
  ⟨some 74, none, .pick (.t 70) (.c (.bool true)) (.t 73)⟩,
  ⟨some 15, none, .mov (.t 74)⟩]
def c3_pianolalaw18_IrCells : C :=
 .seq (.ops [⟨some 66, none, .bin .lss (.t 65) (.t 64)⟩])
  (.seq (.cond (.t 66)
  (.skip)
  (.exit 4))
  (.seq (.block 5
  (.seq (.ops [⟨some 67, none, .ia 1 (.t 63) (.t 65)⟩,
  ⟨some 68, none, .ld (.t 67)⟩,
  ⟨some 17, none, .mov (.t 68)⟩])
  (c2_pianolalaw18_IrCells)))
  (.ops [⟨some 75, none, .bin .add (.t 65) (.c (.int .i64 1))⟩,
  ⟨some 65, none, .mov (.t 75)⟩])))
def c4_pianolalaw18_IrCells : C :=
 .seq (.any 0 [.op 0 ⟨some 76, none, .mov (.t 15)⟩,
  .op 1 ⟨some 77, none, .un .not (.t 76)⟩,
  .op 2 ⟨some 78, none, .mov (.t 77)⟩,
  .op 3 ⟨some 79, some (78, true), .mov (.t 14)⟩,
  .op 4 ⟨some 80, some (78, true), .iaa 40 1 (.t 8) (.t 79)⟩,
  .op 5 ⟨some 81, some (78, true), .ld (.t 80)⟩,
  .op 6 ⟨some 82, some (78, true), .mov (.t 14)⟩,
  .op 7 ⟨some 83, some (78, true), .iaa 40 1 (.t 12) (.t 82)⟩,
  .op 8 ⟨some 84, some (78, true), .ld (.t 83)⟩,
  .op 9 ⟨some 85, some (78, true), .bin .neq (.t 81) (.t 84)⟩,
  .op 10 ⟨some 86, none, .pick (.t 78) (.t 85) (.c (.bool false))⟩,
  .op 11 ⟨some 87, none, .mov (.t 86)⟩,
  .op 12 ⟨some 88, some (87, false), .mov (.t 15)⟩,
  .op 13 ⟨some 89, some (87, false), .mov (.t 88)⟩,
  .op 14 ⟨some 90, some (89, true), .mov (.t 14)⟩,
  .op 15 ⟨some 91, some (89, true), .iaa 40 1 (.t 8) (.t 90)⟩,
  .op 16 ⟨some 92, some (89, true), .ld (.t 91)⟩,
  .op 17 ⟨some 93, some (89, true), .mov (.t 14)⟩,
  .op 18 ⟨some 94, some (89, true), .iaa 40 1 (.t 9) (.t 93)⟩,
  .op 19 ⟨some 95, some (89, true), .ld (.t 94)⟩,
  .op 20 ⟨some 96, some (89, true), .bin .neq (.t 92) (.t 95)⟩,
  .op 21 ⟨some 97, some (87, false), .pick (.t 89) (.t 96) (.c (.bool false))⟩,
  .op 22 ⟨some 98, none, .pick (.t 87) (.c (.bool true)) (.t 97)⟩])
  (.cond (.t 98)
  (.seq (.ops [⟨some 6, none, .mov (.c (.bool false))⟩])
  (.ret))
  (.skip))
def c5_pianolalaw18_IrCells : C :=
 .seq (.block 3
  (.seq (.ops [⟨some 15, none, .mov (.c (.bool false))⟩])
  (.seq (.seq (.ops [⟨some 63, none, .mov (.t 13)⟩,
  ⟨some 64, none, .len 1 (.t 63)⟩,
  ⟨some 65, none, .mov (.c (.int .i64 0))⟩])
  (.block 4
  (.loop c3_pianolalaw18_IrCells)))
  (c4_pianolalaw18_IrCells))))
  (.ops [⟨some 61, none, .mov (.t 14)⟩,
  ⟨some 62, none, .bin .add (.t 61) (.c (.int .i64 1))⟩,
  ⟨some 14, none, .mov (.t 62)⟩])
def c6_pianolalaw18_IrCells : C :=
 .seq (.seq (.ops [⟨some 59, none, .mov (.t 14)⟩,
  ⟨some 60, none, .bin .lss (.t 59) (.c (.int .i64 40))⟩])
  (.cond (.t 60)
  (.skip)
  (.exit 2)))
  (c5_pianolalaw18_IrCells)
def c7_pianolalaw18_IrCells : C :=
 .seq (.seq (.ops [⟨some 47, none, .ldn 5 (.t 7)⟩,
  ⟨some 48, none, .bsl 1 [(.int .i64 0), (.int .i64 0), (.int .i64 0), (.int .i64 0), (.int .u32 0)] [(0, 5, (.t 47))]⟩,
  ⟨some 49, none, .call n_ir_Run [(.t 8), (.t 48)]⟩,
  ⟨some 50, none, .un .not (.t 49)⟩,
  ⟨some 51, none, .mov (.t 50)⟩,
  ⟨some 52, some (51, false), .ldn 5 (.t 7)⟩,
  ⟨some 53, some (51, false), .bsl 1 [(.int .i64 0), (.int .i64 0), (.int .i64 0), (.int .i64 0), (.int .u32 0)] [(0, 5, (.t 52))]⟩,
  ⟨some 54, some (51, false), .call n_ir_Run [(.t 9), (.t 53)]⟩,
  ⟨some 55, some (51, false), .un .not (.t 54)⟩,
  ⟨some 56, none, .pick (.t 51) (.c (.bool true)) (.t 55)⟩])
  (.cond (.t 56)
  (.seq (.ops [⟨some 6, none, .mov (.c (.bool false))⟩])
  (.ret))
  (.skip)))
  (.seq (.ops [⟨some 57, none, .ldn 5 (.t 7)⟩,
  ⟨some 58, none, .call n_ir_Writes [(.t 57)]⟩,
  ⟨some 13, none, .mov (.t 58)⟩])
  (.seq (.seq (.ops [⟨some 14, none, .mov (.c (.int .i64 0))⟩])
  (.block 2
  (.loop c6_pianolalaw18_IrCells)))
  (.seq (.ops [⟨some 99, none, .call n_pianolalaw18_known []⟩,
  ⟨some 6, none, .mov (.t 99)⟩])
  (.ret))))
def c8_pianolalaw18_IrCells : C :=
 .seq (.seq (.ops [⟨some 27, none, .ldn 5 (.t 7)⟩,
  ⟨some 28, none, .call n_ir_Reads [(.t 27)]⟩,
  ⟨some 29, none, .len 1 (.t 28)⟩,
  ⟨some 30, none, .mov (.c (.int .i64 0))⟩])
  (.block 0
  (.loop c1_pianolalaw18_IrCells)))
  (.seq (.ops [⟨some 46, none, .ldn 40 (.t 8)⟩,
  ⟨some 12, none, .new (List.replicate 40 (.int .u32 0))⟩,
  ⟨none, none, .stn 40 (.t 12) (.t 46)⟩])
  (c7_pianolalaw18_IrCells))
def c9_pianolalaw18_IrCells : C :=
 .seq (.ops [⟨some 23, none, .mov (.t 0)⟩,
  ⟨some 24, none, .call n_pianolalaw18_regs [(.t 23)]⟩,
  ⟨some 25, none, .mov (.t 1)⟩,
  ⟨some 26, none, .call n_pianolalaw18_regs [(.t 25)]⟩,
  ⟨some 8, none, .new (List.replicate 40 (.int .u32 0))⟩,
  ⟨some 9, none, .new (List.replicate 40 (.int .u32 0))⟩,
  ⟨none, none, .stn 40 (.t 8) (.t 24)⟩,
  ⟨none, none, .stn 40 (.t 9) (.t 26)⟩])
  (c8_pianolalaw18_IrCells)
def c10_pianolalaw18_IrCells : C :=
 .seq (.ops [⟨some 18, none, .ldn 5 (.t 5)⟩,
  ⟨some 19, none, .bsl 1 [(.int .i64 0), (.int .i64 0), (.int .i64 0), (.int .i64 0), (.int .u32 0)] [(0, 5, (.t 18))]⟩,
  ⟨some 20, none, .call n_pianolalaw18_near [(.t 19), (.c (.int .i64 1))]⟩,
  ⟨some 21, none, .ia 5 (.t 20) (.c (.int .i64 0))⟩,
  ⟨some 22, none, .ldn 5 (.t 21)⟩,
  ⟨some 7, none, .new [(.int .i64 0), (.int .i64 0), (.int .i64 0), (.int .i64 0), (.int .u32 0)]⟩,
  ⟨none, none, .stn 5 (.t 7) (.t 22)⟩])
  (c9_pianolalaw18_IrCells)
def c_pianolalaw18_IrCells : C :=
 .seq (.ops [⟨some 5, none, .box (.t 2)⟩,
  ⟨some 6, none, .mov (.c (.bool false))⟩])
  (c10_pianolalaw18_IrCells)
def f_pianolalaw18_IrCells : F := ⟨c_pianolalaw18_IrCells, [.t 6], some []⟩
theorem h_pianolalaw18_IrCells : compF Try.prog (compAny Try.prog) n_pianolalaw18_IrCells = some (f_pianolalaw18_IrCells.body, f_pianolalaw18_IrCells.res) := by kernel_rfl
/- pianola/pianolalaw20.OptNumbers -/
def c0_pianolalaw20_OptNumbers : C :=
 .seq (.block 1
  (.seq (.ops [⟨some 13, none, .mov (.t 11)⟩,
  ⟨some 2, none, .mov (.t 13)⟩])
  (.ops [⟨some 14, none, .mov (.t 1)⟩,
  ⟨some 15, none, .mov (.t 2)⟩,
  ⟨some 16, none, .mov (.t 2)⟩,
  ⟨some 17, none, .conv .u32 (.t 16)⟩,
  ⟨some 18, none, .bin .mul (.t 17) (.c (.int .u32 19088743))⟩,
  ⟨some 19, none, .ia 1 (.t 14) (.t 15)⟩,
  ⟨none, none, .st (.t 19) (.t 18)⟩])))
  (.ops [⟨some 20, none, .bin .add (.t 11) (.c (.int .i64 1))⟩,
  ⟨some 11, none, .mov (.t 20)⟩])
def c1_pianolalaw20_OptNumbers : C :=
 .seq (.ops [⟨some 12, none, .bin .lss (.t 11) (.t 10)⟩])
  (.seq (.cond (.t 12)
  (.skip)
  (.exit 0))
  (c0_pianolalaw20_OptNumbers))
def c2_pianolalaw20_OptNumbers : C :=
 .ops [⟨some 48, none, .mov (.t 6)⟩,
  ⟨some 49, none, .mov (.t 4)⟩,
  ⟨some 50, none, .bin .mul (.t 49) (.c (.int .i64 12))⟩,
  ⟨some 51, none, .build [(.int .i64 0), (.int .i64 0), (.int .i64 0), (.int .i64 0), (.int .u32 0)] [(0, 1, (.c (.int .i64 1))), (1, 1, (.t 50)), (4, 1, (.c (.int .u32 3)))]⟩,
  ⟨some 52, none, .bsl 1 [(.int .i64 0), (.int .i64 0), (.int .i64 0), (.int .i64 0), (.int .u32 0)] [(0, 5, (.t 51))]⟩,
  ⟨some 53, none, .app 5 40 (.t 48) (.t 52)⟩,
  ⟨some 6, none, .mov (.t 53)⟩]
def c3_pianolalaw20_OptNumbers : C :=
 .seq (.ops [⟨some 54, none, .mov (.t 1)⟩,
  ⟨some 55, none, .mov (.t 6)⟩,
  ⟨some 56, none, .mov (.t 6)⟩,
  ⟨some 57, none, .call n_opt_Opt [(.t 56)]⟩,
  ⟨some 58, none, .call n_pianolalaw20_same [(.t 54), (.t 55), (.t 57)]⟩,
  ⟨some 59, none, .un .not (.t 58)⟩,
  ⟨some 60, none, .mov (.t 59)⟩,
  ⟨some 61, some (60, false), .mov (.t 1)⟩,
  ⟨some 62, some (60, false), .mov (.t 6)⟩,
  ⟨some 63, some (60, false), .mov (.t 6)⟩,
  ⟨some 64, some (60, false), .call n_opt_Dead [(.t 63)]⟩,
  ⟨some 65, some (60, false), .call n_pianolalaw20_same [(.t 61), (.t 62), (.t 64)]⟩,
  ⟨some 66, some (60, false), .un .not (.t 65)⟩,
  ⟨some 67, none, .pick (.t 60) (.c (.bool true)) (.t 66)⟩,
  ⟨some 68, none, .mov (.t 67)⟩,
  ⟨some 69, some (68, false), .mov (.t 1)⟩,
  ⟨some 70, some (68, false), .mov (.t 6)⟩,
  ⟨some 71, some (68, false), .mov (.t 6)⟩,
  ⟨some 72, some (68, false), .call n_opt_Fold [(.t 71)]⟩,
  ⟨some 73, some (68, false), .call n_pianolalaw20_same [(.t 69), (.t 70), (.t 72)]⟩,
  ⟨some 74, some (68, false), .un .not (.t 73)⟩,
  ⟨some 75, none, .pick (.t 68) (.c (.bool true)) (.t 74)⟩,
  ⟨some 76, none, .mov (.t 75)⟩,
  ⟨some 77, some (76, false), .mov (.t 6)⟩,
  ⟨some 78, some (76, false), .call n_opt_Dead [(.t 77)]⟩,
  ⟨some 79, some (76, false), .call n_pianolalaw20_live [(.t 78)]⟩,
  ⟨some 80, some (76, false), .un .not (.t 79)⟩,
  ⟨some 81, none, .pick (.t 76) (.c (.bool true)) (.t 80)⟩])
  (.cond (.t 81)
  (.seq (.ops [⟨some 0, none, .mov (.c (.bool false))⟩])
  (.ret))
  (.skip))
def c4_pianolalaw20_OptNumbers : C :=
 .seq (.block 7
  (.seq (.ops [⟨some 33, none, .build [(.int .i64 0), (.int .i64 0), (.int .i64 0), (.int .i64 0), (.int .u32 0)] [(0, 1, (.c (.int .i64 1))), (1, 1, (.c (.int .i64 1))), (4, 1, (.c (.int .u32 7)))]⟩,
  ⟨some 34, none, .mov (.t 5)⟩,
  ⟨some 35, none, .bin .quo (.t 34) (.c (.int .i64 2))⟩,
  ⟨some 36, none, .conv .u32 (.t 35)⟩,
  ⟨some 37, none, .build [(.int .i64 0), (.int .i64 0), (.int .i64 0), (.int .i64 0), (.int .u32 0)] [(0, 1, (.c (.int .i64 1))), (1, 1, (.c (.int .i64 34))), (4, 1, (.t 36))]⟩,
  ⟨some 38, none, .mov (.t 3)⟩,
  ⟨some 39, none, .mov (.t 4)⟩,
  ⟨some 40, none, .bin .mul (.t 39) (.c (.int .i64 12))⟩,
  ⟨some 41, none, .build [(.int .i64 0), (.int .i64 0), (.int .i64 0), (.int .i64 0), (.int .u32 0)] [(0, 1, (.t 38)), (1, 1, (.t 40)), (2, 1, (.c (.int .i64 1))), (3, 1, (.c (.int .i64 34)))]⟩,
  ⟨some 42, none, .build [(.int .i64 0), (.int .i64 0), (.int .i64 0), (.int .i64 0), (.int .u32 0)] [(0, 1, (.c (.int .i64 0)))]⟩,
  ⟨some 43, none, .build [(.int .i64 0), (.int .i64 0), (.int .i64 0), (.int .i64 0), (.int .u32 0)] [(0, 1, (.c (.int .i64 2))), (1, 1, (.c (.int .i64 35))), (2, 1, (.c (.int .i64 2)))]⟩,
  ⟨some 44, none, .bsl 5 [(.int .i64 0), (.int .i64 0), (.int .i64 0), (.int .i64 0), (.int .u32 0), (.int .i64 0), (.int .i64 0), (.int .i64 0), (.int .i64 0), (.int .u32 0), (.int .i64 0), (.int .i64 0), (.int .i64 0), (.int .i64 0), (.int .u32 0), (.int .i64 0), (.int .i64 0), (.int .i64 0), (.int .i64 0), (.int .u32 0), (.int .i64 0), (.int .i64 0), (.int .i64 0), (.int .i64 0), (.int .u32 0)] [(0, 5, (.t 33)), (5, 5, (.t 37)), (10, 5, (.t 41)), (15, 5, (.t 42)), (20, 5, (.t 43))]⟩,
  ⟨some 6, none, .mov (.t 44)⟩])
  (.seq (.seq (.ops [⟨some 45, none, .mov (.t 5)⟩,
  ⟨some 46, none, .bin .rem (.t 45) (.c (.int .i64 2))⟩,
  ⟨some 47, none, .bin .eql (.t 46) (.c (.int .i64 1))⟩])
  (.cond (.t 47)
  (c2_pianolalaw20_OptNumbers)
  (.skip)))
  (c3_pianolalaw20_OptNumbers))))
  (.ops [⟨some 31, none, .mov (.t 5)⟩,
  ⟨some 32, none, .bin .add (.t 31) (.c (.int .i64 1))⟩,
  ⟨some 5, none, .mov (.t 32)⟩])
def c5_pianolalaw20_OptNumbers : C :=
 .seq (.seq (.ops [⟨some 29, none, .mov (.t 5)⟩,
  ⟨some 30, none, .bin .lss (.t 29) (.c (.int .i64 4))⟩])
  (.cond (.t 30)
  (.skip)
  (.exit 6)))
  (c4_pianolalaw20_OptNumbers)
def c6_pianolalaw20_OptNumbers : C :=
 .seq (.seq (.ops [⟨some 25, none, .mov (.t 4)⟩,
  ⟨some 26, none, .bin .lss (.t 25) (.c (.int .i64 4))⟩])
  (.cond (.t 26)
  (.skip)
  (.exit 4)))
  (.seq (.block 5
  (.seq (.ops [⟨some 5, none, .mov (.c (.int .i64 0))⟩])
  (.block 6
  (.loop c5_pianolalaw20_OptNumbers))))
  (.ops [⟨some 27, none, .mov (.t 4)⟩,
  ⟨some 28, none, .bin .add (.t 27) (.c (.int .i64 1))⟩,
  ⟨some 4, none, .mov (.t 28)⟩]))
def c7_pianolalaw20_OptNumbers : C :=
 .seq (.seq (.ops [⟨some 21, none, .mov (.t 3)⟩,
  ⟨some 22, none, .bin .lss (.t 21) (.c (.int .i64 23))⟩])
  (.cond (.t 22)
  (.skip)
  (.exit 2)))
  (.seq (.block 3
  (.seq (.ops [⟨some 4, none, .mov (.c (.int .i64 0))⟩])
  (.block 4
  (.loop c6_pianolalaw20_OptNumbers))))
  (.ops [⟨some 23, none, .mov (.t 3)⟩,
  ⟨some 24, none, .bin .add (.t 23) (.c (.int .i64 1))⟩,
  ⟨some 3, none, .mov (.t 24)⟩]))
def c8_pianolalaw20_OptNumbers : C :=
 .seq (.ops [⟨some 85, none, .mov (.t 7)⟩,
  ⟨some 86, none, .call n_opt_Opt [(.t 85)]⟩,
  ⟨some 87, none, .len 1 (.t 86)⟩,
  ⟨some 88, none, .mov (.t 7)⟩,
  ⟨some 89, none, .call n_opt_Dead [(.t 88)]⟩,
  ⟨some 90, none, .len 1 (.t 89)⟩,
  ⟨some 91, none, .bin .add (.t 87) (.t 90)⟩,
  ⟨some 92, none, .mov (.t 7)⟩,
  ⟨some 93, none, .call n_opt_Fold [(.t 92)]⟩,
  ⟨some 94, none, .len 1 (.t 93)⟩,
  ⟨some 95, none, .bin .add (.t 91) (.t 94)⟩,
  ⟨some 96, none, .bin .eql (.t 95) (.c (.int .i64 0))⟩,
  ⟨some 97, none, .mov (.t 96)⟩,
  ⟨some 98, some (97, true), .call n_pianolalaw20_known []⟩,
  ⟨some 99, none, .pick (.t 97) (.t 98) (.c (.bool false))⟩,
  ⟨some 0, none, .mov (.t 99)⟩])
  (.ret)
def c9_pianolalaw20_OptNumbers : C :=
 .seq (.ops [⟨some 82, none, .build [(.int .i64 0), (.int .i64 0), (.int .i64 0), (.int .i64 0), (.int .u32 0)] [(0, 1, (.c (.int .i64 1))), (1, 1, (.c (.int .i64 1))), (4, 1, (.c (.int .u32 5)))]⟩,
  ⟨some 83, none, .build [(.int .i64 0), (.int .i64 0), (.int .i64 0), (.int .i64 0), (.int .u32 0)] [(0, 1, (.c (.int .i64 99)))]⟩,
  ⟨some 84, none, .bsl 2 [(.int .i64 0), (.int .i64 0), (.int .i64 0), (.int .i64 0), (.int .u32 0), (.int .i64 0), (.int .i64 0), (.int .i64 0), (.int .i64 0), (.int .u32 0)] [(0, 5, (.t 82)), (5, 5, (.t 83))]⟩,
  ⟨some 7, none, .mov (.t 84)⟩])
  (c8_pianolalaw20_OptNumbers)
def c10_pianolalaw20_OptNumbers : C :=
 .seq (.ops [⟨some 8, none, .mks [(.int .u32 0)] 4 (.c (.int .i64 40)) (.c (.int .i64 40))⟩,
  ⟨some 1, none, .mov (.t 8)⟩])
  (.seq (.seq (.ops [⟨some 9, none, .mov (.t 1)⟩,
  ⟨some 10, none, .len 1 (.t 9)⟩,
  ⟨some 11, none, .mov (.c (.int .i64 0))⟩])
  (.block 0
  (.loop c1_pianolalaw20_OptNumbers)))
  (.seq (.seq (.ops [⟨some 3, none, .mov (.c (.int .i64 0))⟩])
  (.block 2
  (.loop c7_pianolalaw20_OptNumbers)))
  (c9_pianolalaw20_OptNumbers)))
def c_pianolalaw20_OptNumbers : C :=
 .seq (.ops [⟨some 0, none, .mov (.c (.bool false))⟩])
  (c10_pianolalaw20_OptNumbers)
def f_pianolalaw20_OptNumbers : F := ⟨c_pianolalaw20_OptNumbers, [.t 0], some []⟩
theorem h_pianolalaw20_OptNumbers : compF Try.prog (compAny Try.prog) n_pianolalaw20_OptNumbers = some (f_pianolalaw20_OptNumbers.body, f_pianolalaw20_OptNumbers.res) := by kernel_rfl
/- pianola/pianolalaw20.OptSame -/
def c0_pianolalaw20_OptSame : C :=
 .seq (.ops [⟨some 8, none, .mov (.t 0)⟩,
  ⟨some 9, none, .mov (.t 5)⟩,
  ⟨some 10, none, .mov (.t 5)⟩,
  ⟨some 11, none, .call n_opt_Opt [(.t 10)]⟩,
  ⟨some 12, none, .call n_pianolalaw20_same [(.t 8), (.t 9), (.t 11)]⟩,
  ⟨some 13, none, .mov (.t 12)⟩,
  ⟨some 14, some (13, true), .mov (.t 0)⟩,
  ⟨some 15, some (13, true), .mov (.t 5)⟩,
  ⟨some 16, some (13, true), .mov (.t 5)⟩,
  ⟨some 17, some (13, true), .call n_opt_Dead [(.t 16)]⟩,
  ⟨some 18, some (13, true), .call n_pianolalaw20_same [(.t 14), (.t 15), (.t 17)]⟩,
  ⟨some 19, none, .pick (.t 13) (.t 18) (.c (.bool false))⟩,
  ⟨some 20, none, .mov (.t 19)⟩,
  ⟨some 21, some (20, true), .mov (.t 0)⟩,
  ⟨some 22, some (20, true), .mov (.t 5)⟩,
  ⟨some 23, some (20, true), .mov (.t 5)⟩,
  ⟨some 24, some (20, true), .call n_opt_Fold [(.t 23)]⟩,
  ⟨some 25, some (20, true), .call n_pianolalaw20_same [(.t 21), (.t 22), (.t 24)]⟩,
  ⟨some 26, none, .pick (.t 20) (.t 25) (.c (.bool false))⟩,
  ⟨some 27, none, .mov (.t 26)⟩,
  ⟨some 28, some (27, true), .mov (.t 0)⟩,
  ⟨some 29, some (27, true), .mov (.t 5)⟩,
  ⟨some 30, some (27, true), .call n_opt_Fold [(.t 29)]⟩,
  ⟨some 31, some (27, true), .mov (.t 5)⟩,
  ⟨some 32, some (27, true), .call n_opt_Fold [(.t 31)]⟩,
  ⟨some 33, some (27, true), .call n_opt_Dead [(.t 32)]⟩,
  ⟨some 34, some (27, true), .call n_pianolalaw20_same [(.t 28), (.t 30), (.t 33)]⟩,
  ⟨some 35, none, .pick (.t 27) (.t 34) (.c (.bool false))⟩,
  ⟨some 36, none, .mov (.t 35)⟩,
  ⟨some 37, some (36, true), .call n_pianolalaw20_known []⟩,
  ⟨some 38, none, .pick (.t 36) (.t 37) (.c (.bool false))⟩,
  ⟨some 4, none, .mov (.t 38)⟩])
  (.ret)
def c_pianolalaw20_OptSame : C :=
 .seq (.ops [⟨some 4, none, .mov (.c (.bool false))⟩])
  (.seq (.ops [⟨some 6, none, .mov (.t 1)⟩,
  ⟨some 7, none, .call n_pianolalaw20_near [(.t 6), (.c (.int .i64 40))]⟩,
  ⟨some 5, none, .mov (.t 7)⟩])
  (c0_pianolalaw20_OptSame))
def f_pianolalaw20_OptSame : F := ⟨c_pianolalaw20_OptSame, [.t 4], some []⟩
theorem h_pianolalaw20_OptSame : compF Try.prog (compAny Try.prog) n_pianolalaw20_OptSame = some (f_pianolalaw20_OptSame.body, f_pianolalaw20_OptSame.res) := by kernel_rfl
/- pianola/pianolalaw20.OptDead -/
def c0_pianolalaw20_OptDead : C :=
 .seq (.ops [⟨some 9, none, .mov (.t 4)⟩,
  ⟨some 10, none, .call n_pianolalaw20_live [(.t 9)]⟩,
  ⟨some 11, none, .mov (.t 10)⟩,
  ⟨some 12, some (11, true), .mov (.t 4)⟩,
  ⟨some 13, some (11, true), .call n_opt_Dead [(.t 12)]⟩,
  ⟨some 14, some (11, true), .mov (.t 4)⟩,
  ⟨some 15, some (11, true), .call n_pianolabook_Same_ir_Op [(.t 13), (.t 14)]⟩,
  ⟨some 16, none, .pick (.t 11) (.t 15) (.c (.bool false))⟩,
  ⟨some 17, none, .mov (.t 16)⟩,
  ⟨some 18, some (17, true), .call n_pianolalaw20_known []⟩,
  ⟨some 19, none, .pick (.t 17) (.t 18) (.c (.bool false))⟩,
  ⟨some 2, none, .mov (.t 19)⟩])
  (.ret)
def c_pianolalaw20_OptDead : C :=
 .seq (.ops [⟨some 2, none, .mov (.c (.bool false))⟩])
  (.seq (.ops [⟨some 5, none, .mov (.t 0)⟩,
  ⟨some 6, none, .call n_pianolalaw20_near [(.t 5), (.c (.int .i64 40))]⟩,
  ⟨some 3, none, .mov (.t 6)⟩])
  (.seq (.ops [⟨some 7, none, .mov (.t 3)⟩,
  ⟨some 8, none, .call n_opt_Dead [(.t 7)]⟩,
  ⟨some 4, none, .mov (.t 8)⟩])
  (c0_pianolalaw20_OptDead)))
def f_pianolalaw20_OptDead : F := ⟨c_pianolalaw20_OptDead, [.t 2], some []⟩
theorem h_pianolalaw20_OptDead : compF Try.prog (compAny Try.prog) n_pianolalaw20_OptDead = some (f_pianolalaw20_OptDead.body, f_pianolalaw20_OptDead.res) := by kernel_rfl
/- pianola/pianolalaw20.OptFolds -/
def c0_pianolalaw20_OptFolds : C :=
 .seq (.block 1
  (.seq (.ops [⟨some 23, none, .mov (.t 5)⟩,
  ⟨some 24, none, .mov (.t 7)⟩,
  ⟨some 25, none, .mov (.t 1)⟩,
  ⟨some 26, none, .mov (.t 7)⟩,
  ⟨some 27, none, .ia 1 (.t 25) (.t 26)⟩,
  ⟨some 28, none, .ld (.t 27)⟩,
  ⟨some 29, none, .build [(.int .i64 0), (.int .i64 0), (.int .i64 0), (.int .i64 0), (.int .u32 0)] [(0, 1, (.c (.int .i64 1))), (1, 1, (.t 24)), (4, 1, (.t 28))]⟩,
  ⟨some 30, none, .bsl 1 [(.int .i64 0), (.int .i64 0), (.int .i64 0), (.int .i64 0), (.int .u32 0)] [(0, 5, (.t 29))]⟩,
  ⟨some 31, none, .app 5 40 (.t 23) (.t 30)⟩,
  ⟨some 5, none, .mov (.t 31)⟩])
  (.ops [⟨some 32, none, .mov (.t 7)⟩,
  ⟨some 33, none, .iaa 40 1 (.t 6) (.t 32)⟩,
  ⟨none, none, .st (.t 33) (.c (.bool true))⟩])))
  (.ops [⟨some 21, none, .mov (.t 7)⟩,
  ⟨some 22, none, .bin .add (.t 21) (.c (.int .i64 1))⟩,
  ⟨some 7, none, .mov (.t 22)⟩])
def c1_pianolalaw20_OptFolds : C :=
 .seq (.seq (.ops [⟨some 13, none, .mov (.t 7)⟩,
  ⟨some 14, none, .bin .lss (.t 13) (.c (.int .i64 5))⟩,
  ⟨some 15, none, .mov (.t 14)⟩,
  ⟨some 16, some (15, true), .mov (.t 7)⟩,
  ⟨some 17, some (15, true), .mov (.t 1)⟩,
  ⟨some 18, some (15, true), .len 1 (.t 17)⟩,
  ⟨some 19, some (15, true), .bin .lss (.t 16) (.t 18)⟩,
  ⟨some 20, none, .pick (.t 15) (.t 19) (.c (.bool false))⟩])
  (.cond (.t 20)
  (.skip)
  (.exit 0)))
  (c0_pianolalaw20_OptFolds)
def c2_pianolalaw20_OptFolds : C :=
 .seq (.ops [⟨some 102, none, .fa 1 (.t 9)⟩,
  ⟨some 103, none, .ld (.t 102)⟩,
  ⟨some 104, none, .iaa 40 1 (.t 6) (.t 103)⟩,
  ⟨none, none, .st (.t 104) (.c (.bool true))⟩])
  (.ops [⟨some 105, none, .mov (.t 5)⟩,
  ⟨some 106, none, .ldn 5 (.t 9)⟩,
  ⟨some 107, none, .bsl 1 [(.int .i64 0), (.int .i64 0), (.int .i64 0), (.int .i64 0), (.int .u32 0)] [(0, 5, (.t 106))]⟩,
  ⟨some 108, none, .app 5 40 (.t 105) (.t 107)⟩,
  ⟨some 5, none, .mov (.t 108)⟩])
def c3_pianolalaw20_OptFolds : C :=
 .seq (.seq (.ops [⟨some 50, none, .fa 0 (.t 9)⟩,
  ⟨some 51, none, .ld (.t 50)⟩,
  ⟨some 52, none, .bin .geq (.t 51) (.c (.int .i64 17))⟩,
  ⟨some 53, none, .mov (.t 52)⟩,
  ⟨some 54, some (53, false), .fa 0 (.t 9)⟩,
  ⟨some 55, some (53, false), .ld (.t 54)⟩,
  ⟨some 56, some (53, false), .bin .eql (.t 55) (.c (.int .i64 0))⟩,
  ⟨some 57, none, .pick (.t 53) (.c (.bool true)) (.t 56)⟩,
  ⟨some 58, none, .mov (.t 57)⟩,
  ⟨some 59, some (58, false), .fa 1 (.t 9)⟩,
  ⟨some 60, some (58, false), .ld (.t 59)⟩,
  ⟨some 61, some (58, false), .bin .eql (.t 60) (.c (.int .i64 0))⟩,
  ⟨some 62, none, .pick (.t 58) (.c (.bool true)) (.t 61)⟩,
  ⟨some 63, none, .mov (.t 62)⟩,
  ⟨some 64, some (63, false), .fa 0 (.t 9)⟩,
  ⟨some 65, some (63, false), .ld (.t 64)⟩,
  ⟨some 66, some (63, false), .bin .neq (.t 65) (.c (.int .i64 1))⟩,
  ⟨some 67, some (63, false), .mov (.t 66)⟩,
  ⟨some 68, some (67, true), .fa 2 (.t 9)⟩,
  ⟨some 69, some (67, true), .ld (.t 68)⟩,
  ⟨some 70, some (67, true), .iaa 40 1 (.t 6) (.t 69)⟩,
  ⟨some 71, some (67, true), .ld (.t 70)⟩,
  ⟨some 72, some (67, true), .un .not (.t 71)⟩,
  ⟨some 73, some (63, false), .pick (.t 67) (.t 72) (.c (.bool false))⟩,
  ⟨some 74, none, .pick (.t 63) (.c (.bool true)) (.t 73)⟩,
  ⟨some 75, none, .mov (.t 74)⟩,
  ⟨some 76, some (75, false), .fa 0 (.t 9)⟩,
  ⟨some 77, some (75, false), .ld (.t 76)⟩,
  ⟨some 78, some (75, false), .bin .neq (.t 77) (.c (.int .i64 1))⟩,
  ⟨some 79, some (75, false), .mov (.t 78)⟩,
  ⟨some 80, some (79, true), .fa 0 (.t 9)⟩,
  ⟨some 81, some (79, true), .ld (.t 80)⟩,
  ⟨some 82, some (79, true), .bin .neq (.t 81) (.c (.int .i64 2))⟩,
  ⟨some 83, some (75, false), .pick (.t 79) (.t 82) (.c (.bool false))⟩,
  ⟨some 84, some (75, false), .mov (.t 83)⟩,
  ⟨some 85, some (84, true), .fa 0 (.t 9)⟩,
  ⟨some 86, some (84, true), .ld (.t 85)⟩,
  ⟨some 87, some (84, true), .bin .neq (.t 86) (.c (.int .i64 15))⟩,
  ⟨some 88, some (75, false), .pick (.t 84) (.t 87) (.c (.bool false))⟩,
  ⟨some 89, some (75, false), .mov (.t 88)⟩,
  ⟨some 90, some (89, true), .fa 0 (.t 9)⟩,
  ⟨some 91, some (89, true), .ld (.t 90)⟩,
  ⟨some 92, some (89, true), .bin .neq (.t 91) (.c (.int .i64 16))⟩,
  ⟨some 93, some (75, false), .pick (.t 89) (.t 92) (.c (.bool false))⟩,
  ⟨some 94, some (75, false), .mov (.t 93)⟩,
  ⟨some 95, some (94, true), .fa 3 (.t 9)⟩,
  ⟨some 96, some (94, true), .ld (.t 95)⟩,
  ⟨some 97, some (94, true), .iaa 40 1 (.t 6) (.t 96)⟩,
  ⟨some 98, some (94, true), .ld (.t 97)⟩,
  ⟨some 99, some (94, true), .un .not (.t 98)⟩,
  ⟨some 100, some (75, false), .pick (.t 94) (.t 99) (.c (.bool false))⟩,
  ⟨some 101, none, .pick (.t 75) (.c (.bool true)) (.t 100)⟩])
  (.cond (.t 101)
  (.exit 3)
  (.skip)))
  (c2_pianolalaw20_OptFolds)
def c4_pianolalaw20_OptFolds : C :=
 .seq (.block 3
  (.seq (.ops [⟨some 44, none, .mov (.t 0)⟩,
  ⟨some 45, none, .mov (.t 8)⟩,
  ⟨some 46, none, .sl 5 (.t 44) (some (.t 45)) none none⟩,
  ⟨some 47, none, .call n_pianolalaw20_near [(.t 46), (.c (.int .i64 1))]⟩,
  ⟨some 48, none, .ia 5 (.t 47) (.c (.int .i64 0))⟩,
  ⟨some 49, none, .ldn 5 (.t 48)⟩,
  ⟨some 9, none, .new [(.int .i64 0), (.int .i64 0), (.int .i64 0), (.int .i64 0), (.int .u32 0)]⟩,
  ⟨none, none, .stn 5 (.t 9) (.t 49)⟩])
  (c3_pianolalaw20_OptFolds)))
  (.ops [⟨some 42, none, .mov (.t 8)⟩,
  ⟨some 43, none, .bin .add (.t 42) (.c (.int .i64 1))⟩,
  ⟨some 8, none, .mov (.t 43)⟩])
def c5_pianolalaw20_OptFolds : C :=
 .seq (.seq (.ops [⟨some 34, none, .mov (.t 8)⟩,
  ⟨some 35, none, .mov (.t 0)⟩,
  ⟨some 36, none, .len 1 (.t 35)⟩,
  ⟨some 37, none, .bin .lss (.t 34) (.t 36)⟩,
  ⟨some 38, none, .mov (.t 37)⟩,
  ⟨some 39, some (38, true), .mov (.t 8)⟩,
  ⟨some 40, some (38, true), .bin .lss (.t 39) (.c (.int .i64 20))⟩,
  ⟨some 41, none, .pick (.t 38) (.t 40) (.c (.bool false))⟩])
  (.cond (.t 41)
  (.skip)
  (.exit 2)))
  (c4_pianolalaw20_OptFolds)
def c6_pianolalaw20_OptFolds : C :=
 .seq (.block 5
  (.seq (.ops [⟨some 117, none, .mov (.t 10)⟩,
  ⟨some 118, none, .mov (.t 11)⟩,
  ⟨some 119, none, .ia 5 (.t 117) (.t 118)⟩,
  ⟨some 120, none, .fa 0 (.t 119)⟩,
  ⟨some 121, none, .ld (.t 120)⟩,
  ⟨some 122, none, .bin .neq (.t 121) (.c (.int .i64 1))⟩])
  (.cond (.t 122)
  (.seq (.ops [⟨some 4, none, .mov (.c (.bool false))⟩])
  (.ret))
  (.skip))))
  (.ops [⟨some 115, none, .mov (.t 11)⟩,
  ⟨some 116, none, .bin .add (.t 115) (.c (.int .i64 1))⟩,
  ⟨some 11, none, .mov (.t 116)⟩])
def c7_pianolalaw20_OptFolds : C :=
 .seq (.seq (.ops [⟨some 111, none, .mov (.t 11)⟩,
  ⟨some 112, none, .mov (.t 10)⟩,
  ⟨some 113, none, .len 1 (.t 112)⟩,
  ⟨some 114, none, .bin .lss (.t 111) (.t 113)⟩])
  (.cond (.t 114)
  (.skip)
  (.exit 4)))
  (c6_pianolalaw20_OptFolds)
def c8_pianolalaw20_OptFolds : C :=
 .seq (.ops [⟨some 123, none, .mov (.t 10)⟩,
  ⟨some 124, none, .len 1 (.t 123)⟩,
  ⟨some 125, none, .mov (.t 5)⟩,
  ⟨some 126, none, .len 1 (.t 125)⟩,
  ⟨some 127, none, .bin .leq (.t 124) (.t 126)⟩,
  ⟨some 128, none, .mov (.t 127)⟩,
  ⟨some 129, some (128, true), .call n_pianolalaw20_known []⟩,
  ⟨some 130, none, .pick (.t 128) (.t 129) (.c (.bool false))⟩,
  ⟨some 4, none, .mov (.t 130)⟩])
  (.ret)
def c9_pianolalaw20_OptFolds : C :=
 .seq (.seq (.ops [⟨some 8, none, .mov (.c (.int .i64 0))⟩])
  (.block 2
  (.loop c5_pianolalaw20_OptFolds)))
  (.seq (.ops [⟨some 109, none, .mov (.t 5)⟩,
  ⟨some 110, none, .call n_opt_Fold [(.t 109)]⟩,
  ⟨some 10, none, .mov (.t 110)⟩])
  (.seq (.seq (.ops [⟨some 11, none, .mov (.c (.int .i64 0))⟩])
  (.block 4
  (.loop c7_pianolalaw20_OptFolds)))
  (c8_pianolalaw20_OptFolds)))
def c10_pianolalaw20_OptFolds : C :=
 .seq (.ops [⟨some 5, none, .mov (.c (.slice none 0 0))⟩])
  (.seq (.ops [⟨some 6, none, .new (List.replicate 40 (.bool false))⟩])
  (.seq (.ops [⟨some 12, none, .iaa 40 1 (.t 6) (.c (.int .i64 0))⟩,
  ⟨none, none, .st (.t 12) (.c (.bool true))⟩])
  (.seq (.seq (.ops [⟨some 7, none, .mov (.c (.int .i64 1))⟩])
  (.block 0
  (.loop c1_pianolalaw20_OptFolds)))
  (c9_pianolalaw20_OptFolds))))
def c_pianolalaw20_OptFolds : C :=
 .seq (.ops [⟨some 4, none, .mov (.c (.bool false))⟩])
  (c10_pianolalaw20_OptFolds)
def f_pianolalaw20_OptFolds : F := ⟨c_pianolalaw20_OptFolds, [.t 4], some []⟩
theorem h_pianolalaw20_OptFolds : compF Try.prog (compAny Try.prog) n_pianolalaw20_OptFolds = some (f_pianolalaw20_OptFolds.body, f_pianolalaw20_OptFolds.res) := by kernel_rfl
/- pianola/pianolalaw20.OptLifts -/
def c0_pianolalaw20_OptLifts : C :=
 .ops [⟨some 24, none, .mov (.t 7)⟩,
  ⟨some 25, none, .mov (.t 8)⟩,
  ⟨some 26, none, .bin .rem (.t 25) (.c (.int .i64 4))⟩,
  ⟨some 27, none, .bin .add (.c (.int .i64 34)) (.t 26)⟩,
  ⟨some 28, none, .mov (.t 2)⟩,
  ⟨some 29, none, .mov (.t 8)⟩,
  ⟨some 30, none, .ia 1 (.t 28) (.t 29)⟩,
  ⟨some 31, none, .ld (.t 30)⟩,
  ⟨some 32, none, .build [(.int .i64 0), (.int .i64 0), (.int .i64 0), (.int .i64 0), (.int .u32 0)] [(0, 1, (.c (.int .i64 1))), (1, 1, (.t 27)), (4, 1, (.t 31))]⟩,
  ⟨some 33, none, .bsl 1 [(.int .i64 0), (.int .i64 0), (.int .i64 0), (.int .i64 0), (.int .u32 0)] [(0, 5, (.t 32))]⟩,
  ⟨some 34, none, .app 5 40 (.t 24) (.t 33)⟩,
  ⟨some 7, none, .mov (.t 34)⟩]
def c1_pianolalaw20_OptLifts : C :=
 .seq (.block 1
  (.seq (.seq (.ops [⟨some 20, none, .mov (.t 8)⟩,
  ⟨some 21, none, .mov (.t 2)⟩,
  ⟨some 22, none, .len 1 (.t 21)⟩,
  ⟨some 23, none, .bin .lss (.t 20) (.t 22)⟩])
  (.cond (.t 23)
  (c0_pianolalaw20_OptLifts)
  (.skip)))
  (.ops [⟨some 35, none, .mov (.t 7)⟩,
  ⟨some 36, none, .mov (.t 1)⟩,
  ⟨some 37, none, .mov (.t 8)⟩,
  ⟨some 38, none, .sl 5 (.t 36) (some (.t 37)) none none⟩,
  ⟨some 39, none, .call n_pianolalaw20_near [(.t 38), (.c (.int .i64 1))]⟩,
  ⟨some 40, none, .app 5 40 (.t 35) (.t 39)⟩,
  ⟨some 7, none, .mov (.t 40)⟩])))
  (.ops [⟨some 18, none, .mov (.t 8)⟩,
  ⟨some 19, none, .bin .add (.t 18) (.c (.int .i64 1))⟩,
  ⟨some 8, none, .mov (.t 19)⟩])
def c2_pianolalaw20_OptLifts : C :=
 .seq (.seq (.ops [⟨some 10, none, .mov (.t 8)⟩,
  ⟨some 11, none, .mov (.t 1)⟩,
  ⟨some 12, none, .len 1 (.t 11)⟩,
  ⟨some 13, none, .bin .lss (.t 10) (.t 12)⟩,
  ⟨some 14, none, .mov (.t 13)⟩,
  ⟨some 15, some (14, true), .mov (.t 8)⟩,
  ⟨some 16, some (14, true), .bin .lss (.t 15) (.c (.int .i64 20))⟩,
  ⟨some 17, none, .pick (.t 14) (.t 16) (.c (.bool false))⟩])
  (.cond (.t 17)
  (.skip)
  (.exit 0)))
  (c1_pianolalaw20_OptLifts)
def c3_pianolalaw20_OptLifts : C :=
 .seq (.ops [⟨some 43, none, .mov (.t 0)⟩,
  ⟨some 44, none, .mov (.t 7)⟩,
  ⟨some 45, none, .mov (.t 9)⟩,
  ⟨some 46, none, .call n_pianolalaw20_same [(.t 43), (.t 44), (.t 45)]⟩,
  ⟨some 47, none, .mov (.t 46)⟩,
  ⟨some 48, some (47, true), .mov (.t 0)⟩,
  ⟨some 49, some (47, true), .mov (.t 9)⟩,
  ⟨some 50, some (47, true), .mov (.t 9)⟩,
  ⟨some 51, some (47, true), .call n_opt_Opt [(.t 50)]⟩,
  ⟨some 52, some (47, true), .call n_pianolalaw20_same [(.t 48), (.t 49), (.t 51)]⟩,
  ⟨some 53, none, .pick (.t 47) (.t 52) (.c (.bool false))⟩,
  ⟨some 54, none, .mov (.t 53)⟩,
  ⟨some 55, some (54, true), .mov (.t 9)⟩,
  ⟨some 56, some (54, true), .call n_opt_Dead [(.t 55)]⟩,
  ⟨some 57, some (54, true), .call n_pianolalaw20_live [(.t 56)]⟩,
  ⟨some 58, none, .pick (.t 54) (.t 57) (.c (.bool false))⟩,
  ⟨some 59, none, .mov (.t 58)⟩,
  ⟨some 60, some (59, true), .call n_pianolalaw20_known []⟩,
  ⟨some 61, none, .pick (.t 59) (.t 60) (.c (.bool false))⟩,
  ⟨some 6, none, .mov (.t 61)⟩])
  (.ret)
def c_pianolalaw20_OptLifts : C :=
 .seq (.ops [⟨some 6, none, .mov (.c (.bool false))⟩])
  (.seq (.ops [⟨some 7, none, .mov (.c (.slice none 0 0))⟩])
  (.seq (.seq (.ops [⟨some 8, none, .mov (.c (.int .i64 0))⟩])
  (.block 0
  (.loop c2_pianolalaw20_OptLifts)))
  (.seq (.ops [⟨some 41, none, .mov (.t 7)⟩,
  ⟨some 42, none, .call n_opt_Opt [(.t 41)]⟩,
  ⟨some 9, none, .mov (.t 42)⟩])
  (c3_pianolalaw20_OptLifts))))
def f_pianolalaw20_OptLifts : F := ⟨c_pianolalaw20_OptLifts, [.t 6], some []⟩
theorem h_pianolalaw20_OptLifts : compF Try.prog (compAny Try.prog) n_pianolalaw20_OptLifts = some (f_pianolalaw20_OptLifts.body, f_pianolalaw20_OptLifts.res) := by kernel_rfl
/- pianola/pianolalaw18.near -/
def c0_pianolalaw18_near : C :=
 .seq (.any 0 [.op 0 ⟨some 23, none, .fa 0 (.t 7)⟩,
  .op 1 ⟨some 24, none, .ld (.t 23)⟩,
  .op 4 ⟨some 27, none, .fa 1 (.t 7)⟩,
  .op 5 ⟨some 28, none, .ld (.t 27)⟩,
  .op 7 ⟨some 30, none, .fa 2 (.t 7)⟩,
  .op 8 ⟨some 31, none, .ld (.t 30)⟩,
  .op 10 ⟨some 33, none, .fa 3 (.t 7)⟩,
  .op 11 ⟨some 34, none, .ld (.t 33)⟩,
  .op 2 ⟨some 25, none, .call n_pianolabook_Within [(.t 24), (.c (.int .i64 0)), (.c (.int .i64 1048576))]⟩,
  .re 5 ⟨some 28, none, .ld (.t 27)⟩,
  .re 8 ⟨some 31, none, .ld (.t 30)⟩,
  .re 11 ⟨some 34, none, .ld (.t 33)⟩,
  .op 6 ⟨some 29, none, .call n_pianolalaw18_cell [(.t 28)]⟩,
  .re 8 ⟨some 31, none, .ld (.t 30)⟩,
  .re 11 ⟨some 34, none, .ld (.t 33)⟩,
  .op 9 ⟨some 32, none, .call n_pianolalaw18_cell [(.t 31)]⟩,
  .re 11 ⟨some 34, none, .ld (.t 33)⟩,
  .op 12 ⟨some 35, none, .call n_pianolalaw18_cell [(.t 34)]⟩,
  .op 3 ⟨some 26, none, .bin .rem (.t 25) (.c (.int .i64 23))⟩,
  .op 13 ⟨some 36, none, .fa 0 (.t 7)⟩,
  .op 14 ⟨none, none, .st (.t 36) (.t 26)⟩,
  .op 15 ⟨some 37, none, .fa 1 (.t 7)⟩,
  .op 16 ⟨none, none, .st (.t 37) (.t 29)⟩,
  .op 17 ⟨some 38, none, .fa 2 (.t 7)⟩,
  .op 18 ⟨none, none, .st (.t 38) (.t 32)⟩,
  .op 19 ⟨some 39, none, .fa 3 (.t 7)⟩,
  .op 20 ⟨none, none, .st (.t 39) (.t 35)⟩])
  (.ops [⟨some 40, none, .mov (.t 5)⟩,
  ⟨some 41, none, .ldn 5 (.t 7)⟩,
  ⟨some 42, none, .bsl 1 [(.int .i64 0), (.int .i64 0), (.int .i64 0), (.int .i64 0), (.int .u32 0)] [(0, 5, (.t 41))]⟩,
  ⟨some 43, none, .app 5 40 (.t 40) (.t 42)⟩,
  ⟨some 5, none, .mov (.t 43)⟩])
def c1_pianolalaw18_near : C :=
 .seq (.block 1
  (.seq (.ops [⟨some 19, none, .mov (.t 0)⟩,
  ⟨some 20, none, .mov (.t 6)⟩,
  ⟨some 21, none, .ia 5 (.t 19) (.t 20)⟩,
  ⟨some 22, none, .ldn 5 (.t 21)⟩,
  ⟨some 7, none, .new [(.int .i64 0), (.int .i64 0), (.int .i64 0), (.int .i64 0), (.int .u32 0)]⟩,
  ⟨none, none, .stn 5 (.t 7) (.t 22)⟩])
  (c0_pianolalaw18_near)))
  (.ops [⟨some 17, none, .mov (.t 6)⟩,
  ⟨some 18, none, .bin .add (.t 17) (.c (.int .i64 1))⟩,
  ⟨some 6, none, .mov (.t 18)⟩])
def c2_pianolalaw18_near : C :=
 .seq (.seq (.ops [⟨some 8, none, .mov (.t 6)⟩,
  ⟨some 9, none, .mov (.t 0)⟩,
  ⟨some 10, none, .len 1 (.t 9)⟩,
  ⟨some 11, none, .bin .lss (.t 8) (.t 10)⟩,
  ⟨some 12, none, .mov (.t 11)⟩,
  ⟨some 13, some (12, true), .mov (.t 6)⟩,
  ⟨some 14, some (12, true), .mov (.t 1)⟩,
  ⟨some 15, some (12, true), .bin .lss (.t 13) (.t 14)⟩,
  ⟨some 16, none, .pick (.t 12) (.t 15) (.c (.bool false))⟩])
  (.cond (.t 16)
  (.skip)
  (.exit 0)))
  (c1_pianolalaw18_near)
def c_pianolalaw18_near : C :=
 .seq (.ops [⟨some 4, none, .mov (.c (.slice none 0 0))⟩])
  (.seq (.ops [⟨some 5, none, .mov (.c (.slice none 0 0))⟩])
  (.seq (.seq (.ops [⟨some 6, none, .mov (.c (.int .i64 0))⟩])
  (.block 0
  (.loop c2_pianolalaw18_near)))
  (.seq (.ops [⟨some 44, none, .mov (.t 5)⟩,
  ⟨some 4, none, .mov (.t 44)⟩])
  (.ret))))
def f_pianolalaw18_near : F := ⟨c_pianolalaw18_near, [.t 4], some []⟩
theorem h_pianolalaw18_near : compF Try.prog (compAny Try.prog) n_pianolalaw18_near = some (f_pianolalaw18_near.body, f_pianolalaw18_near.res) := by kernel_rfl
/- pianola/pianolalaw18.regs -/
def c0_pianolalaw18_regs : C :=
 .seq (.block 1
  (.ops [⟨some 15, none, .mov (.t 4)⟩,
  ⟨some 16, none, .mov (.t 0)⟩,
  ⟨some 17, none, .mov (.t 4)⟩,
  ⟨some 18, none, .ia 1 (.t 16) (.t 17)⟩,
  ⟨some 19, none, .ld (.t 18)⟩,
  ⟨some 20, none, .iaa 40 1 (.t 3) (.t 15)⟩,
  ⟨none, none, .st (.t 20) (.t 19)⟩]))
  (.ops [⟨some 13, none, .mov (.t 4)⟩,
  ⟨some 14, none, .bin .add (.t 13) (.c (.int .i64 1))⟩,
  ⟨some 4, none, .mov (.t 14)⟩])
def c1_pianolalaw18_regs : C :=
 .seq (.seq (.ops [⟨some 5, none, .mov (.t 4)⟩,
  ⟨some 6, none, .bin .lss (.t 5) (.c (.int .i64 40))⟩,
  ⟨some 7, none, .mov (.t 6)⟩,
  ⟨some 8, some (7, true), .mov (.t 4)⟩,
  ⟨some 9, some (7, true), .mov (.t 0)⟩,
  ⟨some 10, some (7, true), .len 1 (.t 9)⟩,
  ⟨some 11, some (7, true), .bin .lss (.t 8) (.t 10)⟩,
  ⟨some 12, none, .pick (.t 7) (.t 11) (.c (.bool false))⟩])
  (.cond (.t 12)
  (.skip)
  (.exit 0)))
  (c0_pianolalaw18_regs)
def c_pianolalaw18_regs : C :=
 .seq (.ops [⟨some 2, none, .new (List.replicate 40 (.int .u32 0))⟩])
  (.seq (.ops [⟨some 3, none, .new (List.replicate 40 (.int .u32 0))⟩])
  (.seq (.seq (.ops [⟨some 4, none, .mov (.c (.int .i64 1))⟩])
  (.block 0
  (.loop c1_pianolalaw18_regs)))
  (.seq (.ops [⟨some 21, none, .ldn 40 (.t 3)⟩,
  ⟨none, none, .stn 40 (.t 2) (.t 21)⟩])
  (.ret))))
def f_pianolalaw18_regs : F := ⟨c_pianolalaw18_regs, [.ldn 40 2], some []⟩
theorem h_pianolalaw18_regs : compF Try.prog (compAny Try.prog) n_pianolalaw18_regs = some (f_pianolalaw18_regs.body, f_pianolalaw18_regs.res) := by kernel_rfl
/- pianola/pianolabook.Within -/
def c0_pianolabook_Within : C :=
 .seq (.seq (.ops [⟨some 22, none, .mov (.t 0)⟩,
  ⟨some 23, none, .bin .lss (.t 22) (.c (.int .i64 0))⟩])
  (.cond (.t 23)
  (.ops [⟨some 24, none, .mov (.t 0)⟩,
  ⟨some 25, none, .mov (.t 2)⟩,
  ⟨some 26, none, .bin .add (.t 24) (.t 25)⟩,
  ⟨some 27, none, .mov (.t 1)⟩,
  ⟨some 28, none, .bin .sub (.t 26) (.t 27)⟩,
  ⟨some 29, none, .bin .add (.t 28) (.c (.int .i64 1))⟩,
  ⟨some 0, none, .mov (.t 29)⟩])
  (.skip)))
  (.seq (.ops [⟨some 30, none, .mov (.t 1)⟩,
  ⟨some 31, none, .mov (.t 0)⟩,
  ⟨some 32, none, .bin .add (.t 30) (.t 31)⟩,
  ⟨some 6, none, .mov (.t 32)⟩])
  (.ret))
def c1_pianolabook_Within : C :=
 .seq (.seq (.ops [⟨some 7, none, .mov (.t 0)⟩,
  ⟨some 8, none, .mov (.t 1)⟩,
  ⟨some 9, none, .bin .geq (.t 7) (.t 8)⟩,
  ⟨some 10, none, .mov (.t 9)⟩,
  ⟨some 11, some (10, true), .mov (.t 0)⟩,
  ⟨some 12, some (10, true), .mov (.t 2)⟩,
  ⟨some 13, some (10, true), .bin .leq (.t 11) (.t 12)⟩,
  ⟨some 14, none, .pick (.t 10) (.t 13) (.c (.bool false))⟩])
  (.cond (.t 14)
  (.seq (.ops [⟨some 15, none, .mov (.t 0)⟩,
  ⟨some 6, none, .mov (.t 15)⟩])
  (.ret))
  (.skip)))
  (.seq (.ops [⟨some 16, none, .mov (.t 0)⟩,
  ⟨some 17, none, .mov (.t 2)⟩,
  ⟨some 18, none, .mov (.t 1)⟩,
  ⟨some 19, none, .bin .sub (.t 17) (.t 18)⟩,
  ⟨some 20, none, .bin .add (.t 19) (.c (.int .i64 1))⟩,
  ⟨some 21, none, .bin .rem (.t 16) (.t 20)⟩,
  ⟨some 0, none, .mov (.t 21)⟩])
  (c0_pianolabook_Within))
def c_pianolabook_Within : C :=
 .seq (.ops [⟨some 6, none, .mov (.c (.int .i64 0))⟩])
  (c1_pianolabook_Within)
def f_pianolabook_Within : F := ⟨c_pianolabook_Within, [.t 6], some []⟩
theorem h_pianolabook_Within : compF Try.prog (compAny Try.prog) n_pianolabook_Within = some (f_pianolabook_Within.body, f_pianolabook_Within.res) := by kernel_rfl
/- pianola/ir.Run -/
def c0_ir_Run : C :=
 .seq (.block 1
  (.seq (.ops [⟨some 20, none, .ia 5 (.t 16) (.t 18)⟩,
  ⟨some 21, none, .ldn 5 (.t 20)⟩,
  ⟨some 6, none, .new [(.int .i64 0), (.int .i64 0), (.int .i64 0), (.int .i64 0), (.int .u32 0)]⟩,
  ⟨none, none, .stn 5 (.t 6) (.t 21)⟩])
  (.ops [⟨some 22, none, .mov (.t 0)⟩,
  ⟨some 23, none, .ldn 5 (.t 6)⟩,
  ⟨some 24, none, .call n_ir_Regs_do [(.t 22), (.t 23)]⟩])))
  (.ops [⟨some 25, none, .bin .add (.t 18) (.c (.int .i64 1))⟩,
  ⟨some 18, none, .mov (.t 25)⟩])
def c1_ir_Run : C :=
 .seq (.ops [⟨some 19, none, .bin .lss (.t 18) (.t 17)⟩])
  (.seq (.cond (.t 19)
  (.skip)
  (.exit 0))
  (c0_ir_Run))
def c2_ir_Run : C :=
 .seq (.ops [⟨some 13, none, .mov (.t 0)⟩,
  ⟨some 14, none, .nilc (.t 13)⟩,
  ⟨some 15, none, .iaa 40 1 (.t 14) (.c (.int .i64 0))⟩,
  ⟨none, none, .st (.t 15) (.c (.int .u32 0))⟩])
  (.seq (.seq (.ops [⟨some 16, none, .mov (.t 1)⟩,
  ⟨some 17, none, .len 1 (.t 16)⟩,
  ⟨some 18, none, .mov (.c (.int .i64 0))⟩])
  (.block 0
  (.loop c1_ir_Run)))
  (.seq (.ops [⟨some 4, none, .mov (.c (.bool true))⟩])
  (.ret)))
def c3_ir_Run : C :=
 .seq (.seq (.ops [⟨some 7, none, .mov (.t 0)⟩,
  ⟨some 8, none, .eqn 0 false (.t 7)⟩,
  ⟨some 9, none, .mov (.t 8)⟩,
  ⟨some 10, some (9, false), .mov (.t 1)⟩,
  ⟨some 11, some (9, false), .call n_slices_ContainsFunc_ir_Op_ir_Op [(.t 10), (.f n_ir_Run_1)]⟩,
  ⟨some 12, none, .pick (.t 9) (.c (.bool true)) (.t 11)⟩])
  (.cond (.t 12)
  (.seq (.ops [⟨some 4, none, .mov (.c (.bool false))⟩])
  (.ret))
  (.skip)))
  (c2_ir_Run)
def c_ir_Run : C :=
 .seq (.ops [⟨some 4, none, .mov (.c (.bool false))⟩])
  (c3_ir_Run)
def f_ir_Run : F := ⟨c_ir_Run, [.t 4], some []⟩
theorem h_ir_Run : compF Try.prog (compAny Try.prog) n_ir_Run = some (f_ir_Run.body, f_ir_Run.res) := by kernel_rfl
/- pianola/pianolalaw18.known -/
def c0_pianolalaw18_known : C :=
 .seq (.ops [⟨some 7, none, .mov (.t 2)⟩,
  ⟨some 8, none, .mov (.t 7)⟩,
  ⟨some 9, some (8, true), .iaa 40 1 (.t 1) (.c (.int .i64 3))⟩,
  ⟨some 10, some (8, true), .ld (.t 9)⟩,
  ⟨some 11, some (8, true), .bin .eql (.t 10) (.c (.int .u32 10))⟩,
  ⟨some 12, none, .pick (.t 8) (.t 11) (.c (.bool false))⟩,
  ⟨some 13, none, .mov (.t 12)⟩,
  ⟨some 14, some (13, true), .build [(.int .i64 0), (.int .i64 0), (.int .i64 0), (.int .i64 0), (.int .u32 0)] [(1, 1, (.c (.int .i64 40)))]⟩,
  ⟨some 15, some (13, true), .call n_ir_Right [(.t 14)]⟩,
  ⟨some 16, some (13, true), .un .not (.t 15)⟩,
  ⟨some 17, none, .pick (.t 13) (.t 16) (.c (.bool false))⟩,
  ⟨some 18, none, .mov (.t 17)⟩,
  ⟨some 19, some (18, true), .build [(.int .i64 0), (.int .i64 0), (.int .i64 0), (.int .i64 0), (.int .u32 0)] [(0, 1, (.c (.int .i64 17)))]⟩,
  ⟨some 20, some (18, true), .call n_ir_Writes [(.t 19)]⟩,
  ⟨some 21, some (18, true), .bsl 2 [(.int .i64 0), (.int .i64 0)] [(0, 1, (.c (.int .i64 32))), (1, 1, (.c (.int .i64 33)))]⟩,
  ⟨some 22, some (18, true), .call n_pianolabook_Same_int [(.t 20), (.t 21)]⟩,
  ⟨some 23, none, .pick (.t 18) (.t 22) (.c (.bool false))⟩,
  ⟨some 24, none, .mov (.t 23)⟩,
  ⟨some 25, some (24, true), .call n_ir_Run [(.c (.pointer none)), (.c (.slice none 0 0))]⟩,
  ⟨some 26, some (24, true), .un .not (.t 25)⟩,
  ⟨some 27, none, .pick (.t 24) (.t 26) (.c (.bool false))⟩,
  ⟨some 0, none, .mov (.t 27)⟩])
  (.ret)
def c1_pianolalaw18_known : C :=
 .seq (.ops [⟨some 3, none, .build [(.int .i64 0), (.int .i64 0), (.int .i64 0), (.int .i64 0), (.int .u32 0)] [(0, 1, (.c (.int .i64 1))), (1, 1, (.c (.int .i64 3))), (4, 1, (.c (.int .u32 5)))]⟩,
  ⟨some 4, none, .build [(.int .i64 0), (.int .i64 0), (.int .i64 0), (.int .i64 0), (.int .u32 0)] [(0, 1, (.c (.int .i64 3))), (1, 1, (.c (.int .i64 3))), (2, 1, (.c (.int .i64 3))), (3, 1, (.c (.int .i64 3)))]⟩,
  ⟨some 5, none, .bsl 2 [(.int .i64 0), (.int .i64 0), (.int .i64 0), (.int .i64 0), (.int .u32 0), (.int .i64 0), (.int .i64 0), (.int .i64 0), (.int .i64 0), (.int .u32 0)] [(0, 5, (.t 3)), (5, 5, (.t 4))]⟩,
  ⟨some 6, none, .call n_ir_Run [(.t 1), (.t 5)]⟩,
  ⟨some 2, none, .mov (.t 6)⟩])
  (c0_pianolalaw18_known)
def c_pianolalaw18_known : C :=
 .seq (.ops [⟨some 0, none, .mov (.c (.bool false))⟩])
  (.seq (.ops [⟨some 1, none, .new (List.replicate 40 (.int .u32 0))⟩])
  (c1_pianolalaw18_known))
def f_pianolalaw18_known : F := ⟨c_pianolalaw18_known, [.t 0], some []⟩
theorem h_pianolalaw18_known : compF Try.prog (compAny Try.prog) n_pianolalaw18_known = some (f_pianolalaw18_known.body, f_pianolalaw18_known.res) := by kernel_rfl
/- pianola/pianolalaw18.tells -/
def c0_pianolalaw18_tells : C :=
 .seq (.any 0 [.op 0 ⟨some 3, none, .ldn 5 (.t 1)⟩,
  .op 2 ⟨some 5, none, .ldn 5 (.t 1)⟩,
  .op 1 ⟨some 4, none, .call n_ir_Right [(.t 3)]⟩,
  .re 2 ⟨some 5, none, .ldn 5 (.t 1)⟩,
  .op 3 ⟨some 6, none, .call n_pianolaref18_Right [(.t 5)]⟩,
  .op 4 ⟨some 7, none, .eqb false (.t 4) (.t 6)⟩,
  .op 5 ⟨some 8, none, .mov (.t 7)⟩,
  .op 6 ⟨some 9, some (8, true), .ldn 5 (.t 1)⟩,
  .op 8 ⟨some 11, some (8, true), .ldn 5 (.t 1)⟩,
  .op 7 ⟨some 10, some (8, true), .call n_ir_Reads [(.t 9)]⟩,
  .re 8 ⟨some 11, some (8, true), .ldn 5 (.t 1)⟩,
  .op 9 ⟨some 12, some (8, true), .call n_pianolaref18_Reads [(.t 11)]⟩,
  .op 10 ⟨some 13, some (8, true), .call n_pianolabook_Same_int [(.t 10), (.t 12)]⟩,
  .op 11 ⟨some 14, none, .pick (.t 8) (.t 13) (.c (.bool false))⟩,
  .op 12 ⟨some 15, none, .mov (.t 14)⟩,
  .op 13 ⟨some 16, some (15, true), .ldn 5 (.t 1)⟩,
  .op 15 ⟨some 18, some (15, true), .ldn 5 (.t 1)⟩,
  .op 14 ⟨some 17, some (15, true), .call n_ir_Writes [(.t 16)]⟩,
  .re 15 ⟨some 18, some (15, true), .ldn 5 (.t 1)⟩,
  .op 16 ⟨some 19, some (15, true), .call n_pianolaref18_Writes [(.t 18)]⟩,
  .op 17 ⟨some 20, some (15, true), .call n_pianolabook_Same_int [(.t 17), (.t 19)]⟩,
  .op 18 ⟨some 21, none, .pick (.t 15) (.t 20) (.c (.bool false))⟩,
  .op 19 ⟨some 2, none, .mov (.t 21)⟩])
  (.ret)
def c_pianolalaw18_tells : C :=
 .seq (.ops [⟨some 1, none, .box (.t 0)⟩,
  ⟨some 2, none, .mov (.c (.bool false))⟩])
  (c0_pianolalaw18_tells)
def f_pianolalaw18_tells : F := ⟨c_pianolalaw18_tells, [.t 2], some []⟩
theorem h_pianolalaw18_tells : compF Try.prog (compAny Try.prog) n_pianolalaw18_tells = some (f_pianolalaw18_tells.body, f_pianolalaw18_tells.res) := by kernel_rfl
/- pianola/pianolalaw18.runs -/
def c0_pianolalaw18_runs : C :=
 .seq (.seq (.ops [⟨some 16, none, .mov (.t 8)⟩,
  ⟨some 17, none, .mov (.t 7)⟩,
  ⟨some 18, none, .mov (.t 1)⟩,
  ⟨some 19, none, .call n_pianolaref18_Run [(.t 17), (.t 18)]⟩,
  ⟨some 20, none, .eqb true (.t 16) (.t 19)⟩])
  (.cond (.t 20)
  (.seq (.ops [⟨some 4, none, .mov (.c (.bool false))⟩])
  (.ret))
  (.skip)))
  (.seq (.ops [⟨some 21, none, .sla 40 1 (.t 5) none none none⟩,
  ⟨some 22, none, .mov (.t 7)⟩,
  ⟨some 23, none, .call n_pianolabook_Same_uint32 [(.t 21), (.t 22)]⟩,
  ⟨some 4, none, .mov (.t 23)⟩])
  (.ret))
def c1_pianolalaw18_runs : C :=
 .seq (.ops [⟨some 11, none, .mov (.t 0)⟩,
  ⟨some 12, none, .call n_pianolalaw18_regs [(.t 11)]⟩,
  ⟨some 6, none, .new (List.replicate 40 (.int .u32 0))⟩,
  ⟨none, none, .stn 40 (.t 6) (.t 12)⟩])
  (.seq (.ops [⟨some 13, none, .sla 40 1 (.t 6) none none none⟩,
  ⟨some 7, none, .mov (.t 13)⟩])
  (.seq (.ops [⟨some 14, none, .mov (.t 1)⟩,
  ⟨some 15, none, .call n_ir_Run [(.t 5), (.t 14)]⟩,
  ⟨some 8, none, .mov (.t 15)⟩])
  (c0_pianolalaw18_runs)))
def c_pianolalaw18_runs : C :=
 .seq (.ops [⟨some 4, none, .mov (.c (.bool false))⟩])
  (.seq (.ops [⟨some 9, none, .mov (.t 0)⟩,
  ⟨some 10, none, .call n_pianolalaw18_regs [(.t 9)]⟩,
  ⟨some 5, none, .new (List.replicate 40 (.int .u32 0))⟩,
  ⟨none, none, .stn 40 (.t 5) (.t 10)⟩])
  (c1_pianolalaw18_runs))
def f_pianolalaw18_runs : F := ⟨c_pianolalaw18_runs, [.t 4], some []⟩
theorem h_pianolalaw18_runs : compF Try.prog (compAny Try.prog) n_pianolalaw18_runs = some (f_pianolalaw18_runs.body, f_pianolalaw18_runs.res) := by kernel_rfl
/- pianola/ir.Reads -/
def c0_ir_Reads : C :=
 .ops [⟨some 45, none, .fa 2 (.t 1)⟩,
  ⟨some 46, none, .ld (.t 45)⟩,
  ⟨some 47, none, .fa 3 (.t 1)⟩,
  ⟨some 48, none, .ld (.t 47)⟩,
  ⟨some 49, none, .fa 1 (.t 1)⟩,
  ⟨some 50, none, .ld (.t 49)⟩,
  ⟨some 51, none, .bsl 3 [(.int .i64 0), (.int .i64 0), (.int .i64 0)] [(0, 1, (.t 46)), (1, 1, (.t 48)), (2, 1, (.t 50))]⟩,
  ⟨some 3, none, .mov (.t 51)⟩]
def c1_ir_Reads : C :=
 .seq (.ops [⟨some 39, none, .mov (.t 4)⟩,
  ⟨some 40, none, .bin .eql (.t 39) (.c (.int .i64 21))⟩,
  ⟨some 41, none, .mov (.t 40)⟩,
  ⟨some 42, some (41, false), .mov (.t 4)⟩,
  ⟨some 43, some (41, false), .bin .eql (.t 42) (.c (.int .i64 22))⟩,
  ⟨some 44, none, .pick (.t 41) (.c (.bool true)) (.t 43)⟩,
  ⟨some 38, none, .mov (.t 44)⟩])
  (.cond (.t 38)
  (c0_ir_Reads)
  (.ops [⟨some 7, none, .fa 2 (.t 1)⟩,
  ⟨some 8, none, .ld (.t 7)⟩,
  ⟨some 9, none, .fa 3 (.t 1)⟩,
  ⟨some 10, none, .ld (.t 9)⟩,
  ⟨some 11, none, .bsl 2 [(.int .i64 0), (.int .i64 0)] [(0, 1, (.t 8)), (1, 1, (.t 10))]⟩,
  ⟨some 3, none, .mov (.t 11)⟩]))
def c2_ir_Reads : C :=
 .seq (.ops [⟨some 25, none, .mov (.t 4)⟩,
  ⟨some 26, none, .bin .eql (.t 25) (.c (.int .i64 2))⟩,
  ⟨some 27, none, .mov (.t 26)⟩,
  ⟨some 28, some (27, false), .mov (.t 4)⟩,
  ⟨some 29, some (27, false), .bin .eql (.t 28) (.c (.int .i64 15))⟩,
  ⟨some 30, none, .pick (.t 27) (.c (.bool true)) (.t 29)⟩,
  ⟨some 31, none, .mov (.t 30)⟩,
  ⟨some 32, some (31, false), .mov (.t 4)⟩,
  ⟨some 33, some (31, false), .bin .eql (.t 32) (.c (.int .i64 16))⟩,
  ⟨some 34, none, .pick (.t 31) (.c (.bool true)) (.t 33)⟩,
  ⟨some 24, none, .mov (.t 34)⟩])
  (.cond (.t 24)
  (.ops [⟨some 35, none, .fa 2 (.t 1)⟩,
  ⟨some 36, none, .ld (.t 35)⟩,
  ⟨some 37, none, .bsl 1 [(.int .i64 0)] [(0, 1, (.t 36))]⟩,
  ⟨some 3, none, .mov (.t 37)⟩])
  (c1_ir_Reads))
def c3_ir_Reads : C :=
 .block 0
  (.seq (.ops [⟨some 13, none, .ldn 5 (.t 1)⟩,
  ⟨some 14, none, .call n_ir_Right [(.t 13)]⟩,
  ⟨some 15, none, .un .not (.t 14)⟩,
  ⟨some 16, none, .mov (.t 15)⟩,
  ⟨some 17, some (16, false), .mov (.t 4)⟩,
  ⟨some 18, some (16, false), .bin .eql (.t 17) (.c (.int .i64 0))⟩,
  ⟨some 19, none, .pick (.t 16) (.c (.bool true)) (.t 18)⟩,
  ⟨some 20, none, .mov (.t 19)⟩,
  ⟨some 21, some (20, false), .mov (.t 4)⟩,
  ⟨some 22, some (20, false), .bin .eql (.t 21) (.c (.int .i64 1))⟩,
  ⟨some 23, none, .pick (.t 20) (.c (.bool true)) (.t 22)⟩,
  ⟨some 12, none, .mov (.t 23)⟩])
  (.cond (.t 12)
  (.skip)
  (c2_ir_Reads)))
def c4_ir_Reads : C :=
 .seq (.seq (.ops [⟨some 5, none, .fa 0 (.t 1)⟩,
  ⟨some 6, none, .ld (.t 5)⟩,
  ⟨some 4, none, .mov (.t 6)⟩])
  (c3_ir_Reads))
  (.seq (.ops [⟨some 52, none, .mov (.t 3)⟩,
  ⟨some 53, none, .call n_slices_Sort_int_int [(.t 52)]⟩])
  (.seq (.ops [⟨some 54, none, .mov (.t 3)⟩,
  ⟨some 55, none, .call n_slices_Compact_int_int [(.t 54)]⟩,
  ⟨some 2, none, .mov (.t 55)⟩])
  (.ret)))
def c_ir_Reads : C :=
 .seq (.ops [⟨some 1, none, .box (.t 0)⟩,
  ⟨some 2, none, .mov (.c (.slice none 0 0))⟩])
  (.seq (.ops [⟨some 3, none, .mov (.c (.slice none 0 0))⟩])
  (c4_ir_Reads))
def f_ir_Reads : F := ⟨c_ir_Reads, [.t 2], some []⟩
theorem h_ir_Reads : compF Try.prog (compAny Try.prog) n_ir_Reads = some (f_ir_Reads.body, f_ir_Reads.res) := by kernel_rfl
/- pianola/ir.Writes -/
def c0_ir_Writes : C :=
 .cond (.t 14)
  (.seq (.ops [⟨some 21, none, .bsl 2 [(.int .i64 0), (.int .i64 0)] [(0, 1, (.c (.int .i64 32))), (1, 1, (.c (.int .i64 33)))]⟩,
  ⟨some 2, none, .mov (.t 21)⟩])
  (.ret))
  (.seq (.ops [⟨some 23, none, .fa 1 (.t 1)⟩,
  ⟨some 24, none, .ld (.t 23)⟩,
  ⟨some 25, none, .bin .eql (.t 24) (.c (.int .i64 0))⟩,
  ⟨some 22, none, .mov (.t 25)⟩])
  (.cond (.t 22)
  (.seq (.ops [⟨some 2, none, .mov (.c (.slice none 0 0))⟩])
  (.ret))
  (.skip)))
def c1_ir_Writes : C :=
 .seq (.ops [⟨some 15, none, .mov (.t 3)⟩,
  ⟨some 16, none, .bin .geq (.t 15) (.c (.int .i64 17))⟩,
  ⟨some 17, none, .mov (.t 16)⟩,
  ⟨some 18, some (17, true), .mov (.t 3)⟩,
  ⟨some 19, some (17, true), .bin .leq (.t 18) (.c (.int .i64 20))⟩,
  ⟨some 20, none, .pick (.t 17) (.t 19) (.c (.bool false))⟩,
  ⟨some 14, none, .mov (.t 20)⟩])
  (c0_ir_Writes)
def c2_ir_Writes : C :=
 .block 0
  (.seq (.ops [⟨some 7, none, .ldn 5 (.t 1)⟩,
  ⟨some 8, none, .call n_ir_Right [(.t 7)]⟩,
  ⟨some 9, none, .un .not (.t 8)⟩,
  ⟨some 10, none, .mov (.t 9)⟩,
  ⟨some 11, some (10, false), .mov (.t 3)⟩,
  ⟨some 12, some (10, false), .bin .eql (.t 11) (.c (.int .i64 0))⟩,
  ⟨some 13, none, .pick (.t 10) (.c (.bool true)) (.t 12)⟩,
  ⟨some 6, none, .mov (.t 13)⟩])
  (.cond (.t 6)
  (.seq (.ops [⟨some 2, none, .mov (.c (.slice none 0 0))⟩])
  (.ret))
  (c1_ir_Writes)))
def c_ir_Writes : C :=
 .seq (.ops [⟨some 1, none, .box (.t 0)⟩,
  ⟨some 2, none, .mov (.c (.slice none 0 0))⟩])
  (.seq (.seq (.ops [⟨some 4, none, .fa 0 (.t 1)⟩,
  ⟨some 5, none, .ld (.t 4)⟩,
  ⟨some 3, none, .mov (.t 5)⟩])
  (c2_ir_Writes))
  (.seq (.ops [⟨some 26, none, .fa 1 (.t 1)⟩,
  ⟨some 27, none, .ld (.t 26)⟩,
  ⟨some 28, none, .bsl 1 [(.int .i64 0)] [(0, 1, (.t 27))]⟩,
  ⟨some 2, none, .mov (.t 28)⟩])
  (.ret)))
def f_ir_Writes : F := ⟨c_ir_Writes, [.t 2], some []⟩
theorem h_ir_Writes : compF Try.prog (compAny Try.prog) n_ir_Writes = some (f_ir_Writes.body, f_ir_Writes.res) := by kernel_rfl
/- pianola/pianolalaw20.same -/
def c0_pianolalaw20_same : C :=
 .seq (.ops [⟨some 23, none, .mov (.t 8)⟩,
  ⟨some 24, none, .mov (.t 23)⟩,
  ⟨some 25, some (24, true), .mov (.t 10)⟩,
  ⟨some 26, none, .pick (.t 24) (.t 25) (.c (.bool false))⟩,
  ⟨some 27, none, .mov (.t 26)⟩,
  ⟨some 28, some (27, true), .mov (.t 2)⟩,
  ⟨some 29, some (27, true), .len 1 (.t 28)⟩,
  ⟨some 30, some (27, true), .mov (.t 1)⟩,
  ⟨some 31, some (27, true), .len 1 (.t 30)⟩,
  ⟨some 32, some (27, true), .bin .leq (.t 29) (.t 31)⟩,
  ⟨some 33, none, .pick (.t 27) (.t 32) (.c (.bool false))⟩,
  ⟨some 34, none, .mov (.t 33)⟩,
  ⟨some 35, some (34, true), .mov (.t 7)⟩,
  ⟨some 36, some (34, true), .mov (.t 9)⟩,
  ⟨some 37, some (34, true), .call n_pianolabook_Same_uint32 [(.t 35), (.t 36)]⟩,
  ⟨some 38, none, .pick (.t 34) (.t 37) (.c (.bool false))⟩,
  ⟨some 6, none, .mov (.t 38)⟩])
  (.ret)
def c1_pianolalaw20_same : C :=
 .seq (.ops [⟨some 12, none, .mov (.t 0)⟩,
  ⟨some 13, none, .mov (.t 1)⟩,
  ⟨some 14, none, .call n_pianolalaw20_leaves [(.t 12), (.t 13)]⟩,
  ⟨some 11, none, .mov (.t 14)⟩,
  ⟨some 15, none, .ext (.t 11) 0⟩,
  ⟨some 16, none, .ext (.t 11) 1⟩,
  ⟨some 7, none, .mov (.t 15)⟩,
  ⟨some 8, none, .mov (.t 16)⟩])
  (.seq (.ops [⟨some 18, none, .mov (.t 0)⟩,
  ⟨some 19, none, .mov (.t 2)⟩,
  ⟨some 20, none, .call n_pianolalaw20_leaves [(.t 18), (.t 19)]⟩,
  ⟨some 17, none, .mov (.t 20)⟩,
  ⟨some 21, none, .ext (.t 17) 0⟩,
  ⟨some 22, none, .ext (.t 17) 1⟩,
  ⟨some 9, none, .mov (.t 21)⟩,
  ⟨some 10, none, .mov (.t 22)⟩])
  (c0_pianolalaw20_same))
def c_pianolalaw20_same : C :=
 .seq (.ops [⟨some 6, none, .mov (.c (.bool false))⟩])
  (c1_pianolalaw20_same)
def f_pianolalaw20_same : F := ⟨c_pianolalaw20_same, [.t 6], some []⟩
theorem h_pianolalaw20_same : compF Try.prog (compAny Try.prog) n_pianolalaw20_same = some (f_pianolalaw20_same.body, f_pianolalaw20_same.res) := by kernel_rfl
end Go.Proofs.Ytjobkhnanbkcjaa.Cd

/- The code of the functions that are reached, as the interpreter reads it. -/
set_option maxRecDepth 100000
set_option linter.defProp false
namespace Go.Proofs.Ytjobkhnanbkcjaa.Cd
open Go Go.Dx
/- pianola/opt.Opt -/
def c_opt_Opt : C :=
 .seq (.ops [⟨some 2, none, .mov (.c (.slice none 0 0))⟩])
  (.seq (.ops [⟨some 3, none, .mov (.t 0)⟩,
  ⟨some 4, none, .call n_opt_Fold [(.t 3)]⟩,
  ⟨some 5, none, .call n_opt_Dead [(.t 4)]⟩,
  ⟨some 2, none, .mov (.t 5)⟩])
  (.ret))
def f_opt_Opt : F := ⟨c_opt_Opt, [.t 2], some []⟩
theorem h_opt_Opt : compF Try.prog (compAny Try.prog) n_opt_Opt = some (f_opt_Opt.body, f_opt_Opt.res) := by kernel_rfl
/- pianola/opt.Dead -/
def c0_opt_Dead : C :=
 .seq (.block 1
  (.seq (.ops [⟨some 18, none, .mov (.t 16)⟩,
  ⟨some 4, none, .mov (.t 18)⟩])
  (.ops [⟨some 19, none, .mov (.t 4)⟩,
  ⟨some 20, none, .iaa 40 1 (.t 3) (.t 19)⟩,
  ⟨none, none, .st (.t 20) (.c (.bool true))⟩])))
  (.ops [⟨some 21, none, .bin .add (.t 16) (.c (.int .i64 1))⟩,
  ⟨some 16, none, .mov (.t 21)⟩])
def c1_opt_Dead : C :=
 .seq (.ops [⟨some 17, none, .bin .lss (.t 16) (.c (.int .i64 34))⟩])
  (.seq (.cond (.t 17)
  (.skip)
  (.exit 0))
  (c0_opt_Dead))
def c2_opt_Dead : C :=
 .ops [⟨some 45, none, .mov (.t 10)⟩,
  ⟨some 46, none, .mov (.t 10)⟩,
  ⟨some 47, none, .iaa 40 1 (.t 3) (.t 46)⟩,
  ⟨some 48, none, .ld (.t 47)⟩,
  ⟨some 49, none, .mov (.t 48)⟩,
  ⟨some 50, some (49, true), .ldn 5 (.t 7)⟩,
  ⟨some 51, some (49, true), .call n_opt_sure [(.t 50)]⟩,
  ⟨some 52, some (49, true), .un .not (.t 51)⟩,
  ⟨some 53, none, .pick (.t 49) (.t 52) (.c (.bool false))⟩,
  ⟨some 54, none, .iaa 40 1 (.t 3) (.t 45)⟩,
  ⟨none, none, .st (.t 54) (.t 53)⟩]
def c3_opt_Dead : C :=
 .seq (.ops [⟨some 42, none, .bin .lss (.t 41) (.t 40)⟩])
  (.seq (.cond (.t 42)
  (.skip)
  (.exit 4))
  (.seq (.block 5
  (.seq (.ops [⟨some 43, none, .ia 1 (.t 39) (.t 41)⟩,
  ⟨some 44, none, .ld (.t 43)⟩,
  ⟨some 10, none, .mov (.t 44)⟩])
  (c2_opt_Dead)))
  (.ops [⟨some 55, none, .bin .add (.t 41) (.c (.int .i64 1))⟩,
  ⟨some 41, none, .mov (.t 55)⟩])))
def c4_opt_Dead : C :=
 .seq (.block 7
  (.seq (.ops [⟨some 61, none, .ia 1 (.t 57) (.t 59)⟩,
  ⟨some 62, none, .ld (.t 61)⟩,
  ⟨some 12, none, .mov (.t 62)⟩])
  (.ops [⟨some 63, none, .mov (.t 12)⟩,
  ⟨some 64, none, .iaa 40 1 (.t 3) (.t 63)⟩,
  ⟨none, none, .st (.t 64) (.c (.bool true))⟩])))
  (.ops [⟨some 65, none, .bin .add (.t 59) (.c (.int .i64 1))⟩,
  ⟨some 59, none, .mov (.t 65)⟩])
def c5_opt_Dead : C :=
 .seq (.ops [⟨some 60, none, .bin .lss (.t 59) (.t 58)⟩])
  (.seq (.cond (.t 60)
  (.skip)
  (.exit 6))
  (c4_opt_Dead))
def c6_opt_Dead : C :=
 .seq (.seq (.ops [⟨some 56, none, .ldn 5 (.t 7)⟩,
  ⟨some 57, none, .call n_ir_Reads [(.t 56)]⟩,
  ⟨some 58, none, .len 1 (.t 57)⟩,
  ⟨some 59, none, .mov (.c (.int .i64 0))⟩])
  (.block 6
  (.loop c5_opt_Dead)))
  (.ops [⟨some 66, none, .mov (.t 5)⟩,
  ⟨some 67, none, .ldn 5 (.t 7)⟩,
  ⟨some 68, none, .bsl 1 [(.int .i64 0), (.int .i64 0), (.int .i64 0), (.int .i64 0), (.int .u32 0)] [(0, 5, (.t 67))]⟩,
  ⟨some 69, none, .app 5 40 (.t 66) (.t 68)⟩,
  ⟨some 5, none, .mov (.t 69)⟩])
def c7_opt_Dead : C :=
 .seq (.seq (.ops [⟨some 35, none, .mov (.t 8)⟩,
  ⟨some 36, none, .mkf n_opt_Dead_1 [(.t 3)]⟩,
  ⟨some 37, none, .call n_slices_ContainsFunc_int_int [(.t 35), (.t 36)]⟩,
  ⟨some 38, none, .un .not (.t 37)⟩])
  (.cond (.t 38)
  (.exit 3)
  (.skip)))
  (.seq (.seq (.ops [⟨some 39, none, .mov (.t 8)⟩,
  ⟨some 40, none, .len 1 (.t 39)⟩,
  ⟨some 41, none, .mov (.c (.int .i64 0))⟩])
  (.block 4
  (.loop c3_opt_Dead)))
  (c6_opt_Dead))
def c8_opt_Dead : C :=
 .seq (.block 3
  (.seq (.ops [⟨some 29, none, .mov (.t 0)⟩,
  ⟨some 30, none, .mov (.t 6)⟩,
  ⟨some 31, none, .ia 5 (.t 29) (.t 30)⟩,
  ⟨some 32, none, .ldn 5 (.t 31)⟩,
  ⟨some 7, none, .new [(.int .i64 0), (.int .i64 0), (.int .i64 0), (.int .i64 0), (.int .u32 0)]⟩,
  ⟨none, none, .stn 5 (.t 7) (.t 32)⟩])
  (.seq (.ops [⟨some 33, none, .ldn 5 (.t 7)⟩,
  ⟨some 34, none, .call n_ir_Writes [(.t 33)]⟩,
  ⟨some 8, none, .mov (.t 34)⟩])
  (c7_opt_Dead))))
  (.ops [⟨some 27, none, .mov (.t 6)⟩,
  ⟨some 28, none, .bin .sub (.t 27) (.c (.int .i64 1))⟩,
  ⟨some 6, none, .mov (.t 28)⟩])
def c9_opt_Dead : C :=
 .seq (.seq (.ops [⟨some 25, none, .mov (.t 6)⟩,
  ⟨some 26, none, .bin .geq (.t 25) (.c (.int .i64 0))⟩])
  (.cond (.t 26)
  (.skip)
  (.exit 2)))
  (c8_opt_Dead)
def c10_opt_Dead : C :=
 .seq (.seq (.ops [⟨some 22, none, .mov (.t 0)⟩,
  ⟨some 23, none, .len 1 (.t 22)⟩,
  ⟨some 24, none, .bin .sub (.t 23) (.c (.int .i64 1))⟩,
  ⟨some 6, none, .mov (.t 24)⟩])
  (.block 2
  (.loop c9_opt_Dead)))
  (.seq (.ops [⟨some 70, none, .mov (.t 5)⟩,
  ⟨some 71, none, .call n_slices_Reverse_ir_Op_ir_Op [(.t 70)]⟩])
  (.seq (.ops [⟨some 72, none, .mov (.t 5)⟩,
  ⟨some 2, none, .mov (.t 72)⟩])
  (.ret)))
def c11_opt_Dead : C :=
 .seq (.seq (.ops [⟨some 13, none, .mov (.t 0)⟩,
  ⟨some 14, none, .call n_opt_right [(.t 13)]⟩,
  ⟨some 15, none, .un .not (.t 14)⟩])
  (.cond (.t 15)
  (.seq (.ops [⟨some 2, none, .mov (.c (.slice none 0 0))⟩])
  (.ret))
  (.skip)))
  (.seq (.ops [⟨some 3, none, .new (List.replicate 40 (.bool false))⟩])
  (.seq (.seq (.ops [⟨some 16, none, .mov (.c (.int .i64 0))⟩])
  (.block 0
  (.loop c1_opt_Dead)))
  (.seq (.ops [⟨some 5, none, .mov (.c (.slice none 0 0))⟩])
  (c10_opt_Dead))))
def c_opt_Dead : C :=
 .seq (.ops [⟨some 2, none, .mov (.c (.slice none 0 0))⟩])
  (c11_opt_Dead)
def f_opt_Dead : F := ⟨c_opt_Dead, [.t 2], some []⟩
theorem h_opt_Dead : compF Try.prog (compAny Try.prog) n_opt_Dead = some (f_opt_Dead.body, f_opt_Dead.res) := by kernel_rfl
/- pianola/opt.Fold -/
def c0_opt_Fold : C :=
 .seq (.ops [⟨some 31, none, .mov (.t 4)⟩,
  ⟨some 32, none, .ldn 5 (.t 7)⟩,
  ⟨some 33, none, .bsl 1 [(.int .i64 0), (.int .i64 0), (.int .i64 0), (.int .i64 0), (.int .u32 0)] [(0, 5, (.t 32))]⟩,
  ⟨some 34, none, .app 5 40 (.t 31) (.t 33)⟩,
  ⟨some 4, none, .mov (.t 34)⟩])
  (.ops [⟨some 35, none, .mov (.t 3)⟩,
  ⟨some 36, none, .ldn 5 (.t 7)⟩,
  ⟨some 37, none, .call n_opt_facts_done [(.t 35), (.t 36)]⟩])
def c1_opt_Fold : C :=
 .seq (.ops [⟨some 25, none, .mov (.t 3)⟩,
  ⟨some 26, none, .ldn 5 (.t 6)⟩,
  ⟨some 27, none, .call n_opt_facts_fold [(.t 25), (.t 26)]⟩,
  ⟨some 24, none, .mov (.t 27)⟩,
  ⟨some 28, none, .ext (.t 24) 0⟩,
  ⟨some 29, none, .ext (.t 24) 1⟩,
  ⟨some 7, none, .new [(.int .i64 0), (.int .i64 0), (.int .i64 0), (.int .i64 0), (.int .u32 0)]⟩,
  ⟨none, none, .stn 5 (.t 7) (.t 28)⟩,
  ⟨some 8, none, .mov (.t 29)⟩])
  (.seq (.ops [⟨some 30, none, .mov (.t 8)⟩])
  (.cond (.t 30)
  (c0_opt_Fold)
  (.skip)))
def c2_opt_Fold : C :=
 .seq (.block 1
  (.seq (.ops [⟨some 22, none, .ia 5 (.t 18) (.t 20)⟩,
  ⟨some 23, none, .ldn 5 (.t 22)⟩,
  ⟨some 6, none, .new [(.int .i64 0), (.int .i64 0), (.int .i64 0), (.int .i64 0), (.int .u32 0)]⟩,
  ⟨none, none, .stn 5 (.t 6) (.t 23)⟩])
  (c1_opt_Fold)))
  (.ops [⟨some 38, none, .bin .add (.t 20) (.c (.int .i64 1))⟩,
  ⟨some 20, none, .mov (.t 38)⟩])
def c3_opt_Fold : C :=
 .seq (.ops [⟨some 21, none, .bin .lss (.t 20) (.t 19)⟩])
  (.seq (.cond (.t 21)
  (.skip)
  (.exit 0))
  (c2_opt_Fold))
def c4_opt_Fold : C :=
 .seq (.ops [⟨some 4, none, .mov (.c (.slice none 0 0))⟩])
  (.seq (.seq (.ops [⟨some 18, none, .mov (.t 0)⟩,
  ⟨some 19, none, .len 1 (.t 18)⟩,
  ⟨some 20, none, .mov (.c (.int .i64 0))⟩])
  (.block 0
  (.loop c3_opt_Fold)))
  (.seq (.ops [⟨some 39, none, .mov (.t 4)⟩,
  ⟨some 2, none, .mov (.t 39)⟩])
  (.ret)))
def c5_opt_Fold : C :=
 .seq (.ops [⟨some 12, none, .build [(.bool false), (.bool false), (.bool false), (.bool false), (.bool false), (.bool false), (.bool false), (.bool false), (.bool false), (.bool false), (.bool false), (.bool false), (.bool false), (.bool false), (.bool false), (.bool false), (.bool false), (.bool false), (.bool false), (.bool false), (.bool false), (.bool false), (.bool false), (.bool false), (.bool false), (.bool false), (.bool false), (.bool false), (.bool false), (.bool false), (.bool false), (.bool false), (.bool false), (.bool false), (.bool false), (.bool false), (.bool false), (.bool false), (.bool false), (.bool false), (.int .u32 0), (.int .u32 0), (.int .u32 0), (.int .u32 0), (.int .u32 0), (.int .u32 0), (.int .u32 0), (.int .u32 0), (.int .u32 0), (.int .u32 0), (.int .u32 0), (.int .u32 0), (.int .u32 0), (.int .u32 0), (.int .u32 0), (.int .u32 0), (.int .u32 0), (.int .u32 0), (.int .u32 0), (.int .u32 0), (.int .u32 0), (.int .u32 0), (.int .u32 0), (.int .u32 0), (.int .u32 0), (.int .u32 0), (.int .u32 0), (.int .u32 0), (.int .u32 0), (.int .u32 0), (.int .u32 0), (.int .u32 0), (.int .u32 0), (.int .u32 0), (.int .u32 0), (.int .u32 0), (.int .u32 0), (.int .u32 0), (.int .u32 0), (.int .u32 0)] []⟩,
  ⟨some 13, none, .box (.t 12)⟩,
  ⟨some 3, none, .mov (.t 13)⟩])
  (.seq (.ops [⟨some 14, none, .mov (.t 3)⟩,
  ⟨some 15, none, .nilc (.t 14)⟩,
  ⟨some 16, none, .fa 0 (.t 15)⟩,
  ⟨some 17, none, .iaa 40 1 (.t 16) (.c (.int .i64 0))⟩,
  ⟨none, none, .st (.t 17) (.c (.bool true))⟩])
  (c4_opt_Fold))
def c_opt_Fold : C :=
 .seq (.ops [⟨some 2, none, .mov (.c (.slice none 0 0))⟩])
  (.seq (.seq (.ops [⟨some 9, none, .mov (.t 0)⟩,
  ⟨some 10, none, .call n_opt_right [(.t 9)]⟩,
  ⟨some 11, none, .un .not (.t 10)⟩])
  (.cond (.t 11)
  (.seq (.ops [⟨some 2, none, .mov (.c (.slice none 0 0))⟩])
  (.ret))
  (.skip)))
  (c5_opt_Fold))
def f_opt_Fold : F := ⟨c_opt_Fold, [.t 2], some []⟩
theorem h_opt_Fold : compF Try.prog (compAny Try.prog) n_opt_Fold = some (f_opt_Fold.body, f_opt_Fold.res) := by kernel_rfl
/- pianola/pianolalaw20.live -/
def c0_pianolalaw20_live : C :=
 .seq (.seq (.ops [⟨some 14, none, .mov (.t 4)⟩,
  ⟨some 15, none, .bin .lss (.t 14) (.c (.int .i64 34))⟩])
  (.cond (.t 15)
  (.skip)
  (.exit 0)))
  (.seq (.block 1
  (.ops [⟨some 18, none, .mov (.t 4)⟩,
  ⟨some 19, none, .iaa 40 1 (.t 3) (.t 18)⟩,
  ⟨none, none, .st (.t 19) (.c (.bool true))⟩]))
  (.ops [⟨some 16, none, .mov (.t 4)⟩,
  ⟨some 17, none, .bin .add (.t 16) (.c (.int .i64 1))⟩,
  ⟨some 4, none, .mov (.t 17)⟩]))
def c1_pianolalaw20_live : C :=
 .seq (.block 5
  (.seq (.ops [⟨some 36, none, .ia 1 (.t 32) (.t 34)⟩,
  ⟨some 37, none, .ld (.t 36)⟩,
  ⟨some 9, none, .mov (.t 37)⟩])
  (.ops [⟨some 38, none, .mov (.t 7)⟩,
  ⟨some 39, none, .mov (.t 38)⟩,
  ⟨some 40, some (39, false), .mov (.t 9)⟩,
  ⟨some 41, some (39, false), .iaa 40 1 (.t 3) (.t 40)⟩,
  ⟨some 42, some (39, false), .ld (.t 41)⟩,
  ⟨some 43, none, .pick (.t 39) (.c (.bool true)) (.t 42)⟩,
  ⟨some 7, none, .mov (.t 43)⟩])))
  (.ops [⟨some 44, none, .bin .add (.t 34) (.c (.int .i64 1))⟩,
  ⟨some 34, none, .mov (.t 44)⟩])
def c2_pianolalaw20_live : C :=
 .seq (.ops [⟨some 35, none, .bin .lss (.t 34) (.t 33)⟩])
  (.seq (.cond (.t 35)
  (.skip)
  (.exit 4))
  (c1_pianolalaw20_live))
def c3_pianolalaw20_live : C :=
 .seq (.block 7
  (.seq (.ops [⟨some 51, none, .ia 1 (.t 47) (.t 49)⟩,
  ⟨some 52, none, .ld (.t 51)⟩,
  ⟨some 11, none, .mov (.t 52)⟩])
  (.ops [⟨some 53, none, .mov (.t 11)⟩,
  ⟨some 54, none, .iaa 40 1 (.t 3) (.t 53)⟩,
  ⟨none, none, .st (.t 54) (.c (.bool false))⟩])))
  (.ops [⟨some 55, none, .bin .add (.t 49) (.c (.int .i64 1))⟩,
  ⟨some 49, none, .mov (.t 55)⟩])
def c4_pianolalaw20_live : C :=
 .seq (.ops [⟨some 50, none, .bin .lss (.t 49) (.t 48)⟩])
  (.seq (.cond (.t 50)
  (.skip)
  (.exit 6))
  (c3_pianolalaw20_live))
def c5_pianolalaw20_live : C :=
 .seq (.block 9
  (.seq (.ops [⟨some 64, none, .ia 1 (.t 60) (.t 62)⟩,
  ⟨some 65, none, .ld (.t 64)⟩,
  ⟨some 13, none, .mov (.t 65)⟩])
  (.ops [⟨some 66, none, .mov (.t 13)⟩,
  ⟨some 67, none, .iaa 40 1 (.t 3) (.t 66)⟩,
  ⟨none, none, .st (.t 67) (.c (.bool true))⟩])))
  (.ops [⟨some 68, none, .bin .add (.t 62) (.c (.int .i64 1))⟩,
  ⟨some 62, none, .mov (.t 68)⟩])
def c6_pianolalaw20_live : C :=
 .seq (.ops [⟨some 63, none, .bin .lss (.t 62) (.t 61)⟩])
  (.seq (.cond (.t 63)
  (.skip)
  (.exit 8))
  (c5_pianolalaw20_live))
def c7_pianolalaw20_live : C :=
 .seq (.seq (.ops [⟨some 47, none, .mov (.t 6)⟩,
  ⟨some 48, none, .len 1 (.t 47)⟩,
  ⟨some 49, none, .mov (.c (.int .i64 0))⟩])
  (.block 6
  (.loop c4_pianolalaw20_live)))
  (.seq (.ops [⟨some 56, none, .mov (.t 0)⟩,
  ⟨some 57, none, .mov (.t 5)⟩,
  ⟨some 58, none, .ia 5 (.t 56) (.t 57)⟩,
  ⟨some 59, none, .ldn 5 (.t 58)⟩,
  ⟨some 60, none, .call n_pianolaref18_Reads [(.t 59)]⟩,
  ⟨some 61, none, .len 1 (.t 60)⟩,
  ⟨some 62, none, .mov (.c (.int .i64 0))⟩])
  (.block 8
  (.loop c6_pianolalaw20_live)))
def c8_pianolalaw20_live : C :=
 .seq (.seq (.ops [⟨some 32, none, .mov (.t 6)⟩,
  ⟨some 33, none, .len 1 (.t 32)⟩,
  ⟨some 34, none, .mov (.c (.int .i64 0))⟩])
  (.block 4
  (.loop c2_pianolalaw20_live)))
  (.seq (.seq (.ops [⟨some 45, none, .mov (.t 7)⟩,
  ⟨some 46, none, .un .not (.t 45)⟩])
  (.cond (.t 46)
  (.seq (.ops [⟨some 2, none, .mov (.c (.bool false))⟩])
  (.ret))
  (.skip)))
  (c7_pianolalaw20_live))
def c9_pianolalaw20_live : C :=
 .seq (.block 3
  (.seq (.ops [⟨some 27, none, .mov (.t 0)⟩,
  ⟨some 28, none, .mov (.t 5)⟩,
  ⟨some 29, none, .ia 5 (.t 27) (.t 28)⟩,
  ⟨some 30, none, .ldn 5 (.t 29)⟩,
  ⟨some 31, none, .call n_pianolaref18_Writes [(.t 30)]⟩,
  ⟨some 6, none, .mov (.t 31)⟩])
  (.seq (.ops [⟨some 7, none, .mov (.c (.bool false))⟩])
  (c8_pianolalaw20_live))))
  (.ops [⟨some 25, none, .mov (.t 5)⟩,
  ⟨some 26, none, .bin .sub (.t 25) (.c (.int .i64 1))⟩,
  ⟨some 5, none, .mov (.t 26)⟩])
def c10_pianolalaw20_live : C :=
 .seq (.seq (.ops [⟨some 23, none, .mov (.t 5)⟩,
  ⟨some 24, none, .bin .geq (.t 23) (.c (.int .i64 0))⟩])
  (.cond (.t 24)
  (.skip)
  (.exit 2)))
  (c9_pianolalaw20_live)
def c11_pianolalaw20_live : C :=
 .seq (.seq (.ops [⟨some 4, none, .mov (.c (.int .i64 1))⟩])
  (.block 0
  (.loop c0_pianolalaw20_live)))
  (.seq (.seq (.ops [⟨some 20, none, .mov (.t 0)⟩,
  ⟨some 21, none, .len 1 (.t 20)⟩,
  ⟨some 22, none, .bin .sub (.t 21) (.c (.int .i64 1))⟩,
  ⟨some 5, none, .mov (.t 22)⟩])
  (.block 2
  (.loop c10_pianolalaw20_live)))
  (.seq (.ops [⟨some 2, none, .mov (.c (.bool true))⟩])
  (.ret)))
def c_pianolalaw20_live : C :=
 .seq (.ops [⟨some 2, none, .mov (.c (.bool false))⟩])
  (.seq (.ops [⟨some 3, none, .new (List.replicate 40 (.bool false))⟩])
  (c11_pianolalaw20_live))
def f_pianolalaw20_live : F := ⟨c_pianolalaw20_live, [.t 2], some []⟩
theorem h_pianolalaw20_live : compF Try.prog (compAny Try.prog) n_pianolalaw20_live = some (f_pianolalaw20_live.body, f_pianolalaw20_live.res) := by kernel_rfl
/- pianola/pianolalaw20.known -/
def c0_pianolalaw20_known : C :=
 .seq (.any 2 [.op 0 ⟨some 8, none, .mov (.t 2)⟩,
  .op 1 ⟨some 9, none, .len 1 (.t 8)⟩,
  .op 2 ⟨some 10, none, .bin .eql (.t 9) (.c (.int .i64 1))⟩,
  .op 3 ⟨some 11, none, .mov (.t 10)⟩,
  .op 4 ⟨some 12, some (11, true), .mov (.t 2)⟩,
  .op 5 ⟨some 13, some (11, true), .ia 5 (.t 12) (.c (.int .i64 0))⟩,
  .op 6 ⟨some 14, some (11, true), .ldn 5 (.t 13)⟩,
  .op 7 ⟨some 15, some (11, true), .ldn 5 (.t 1)⟩,
  .op 8 ⟨some 16, some (11, true), .eqt false (.agg [(0, 1, false, (.int .i64)), (1, 1, false, (.int .i64)), (2, 1, false, (.int .i64)), (3, 1, false, (.int .i64)), (4, 1, false, (.int .u32))]) (.t 14) (.t 15)⟩,
  .op 9 ⟨some 17, none, .pick (.t 11) (.t 16) (.c (.bool false))⟩,
  .op 10 ⟨some 18, none, .mov (.t 17)⟩,
  .op 11 ⟨some 19, some (18, true), .build [(.int .i64 0), (.int .i64 0), (.int .i64 0), (.int .i64 0), (.int .u32 0)] []⟩,
  .al 12 0 ⟨some 20, some (18, true), .bsl 1 [(.int .i64 0), (.int .i64 0), (.int .i64 0), (.int .i64 0), (.int .u32 0)] [(0, 5, (.t 19))]⟩,
  .op 13 ⟨some 21, some (18, true), .call n_opt_Dead [(.t 20)]⟩,
  .op 14 ⟨some 22, some (18, true), .len 1 (.t 21)⟩,
  .op 15 ⟨some 23, some (18, true), .bin .eql (.t 22) (.c (.int .i64 0))⟩,
  .op 16 ⟨some 24, none, .pick (.t 18) (.t 23) (.c (.bool false))⟩,
  .op 17 ⟨some 25, none, .mov (.t 24)⟩,
  .op 18 ⟨some 26, some (25, true), .call n_opt_Opt [(.c (.slice none 0 0))]⟩,
  .op 19 ⟨some 27, some (25, true), .len 1 (.t 26)⟩,
  .op 20 ⟨some 28, some (25, true), .bin .eql (.t 27) (.c (.int .i64 0))⟩,
  .op 21 ⟨some 29, none, .pick (.t 25) (.t 28) (.c (.bool false))⟩,
  .op 22 ⟨some 30, none, .mov (.t 29)⟩,
  .op 23 ⟨some 31, some (30, true), .build [(.int .i64 0), (.int .i64 0), (.int .i64 0), (.int .i64 0), (.int .u32 0)] [(0, 1, (.c (.int .i64 1))), (1, 1, (.c (.int .i64 3))), (4, 1, (.c (.int .u32 2)))]⟩,
  .al 24 1 ⟨some 32, some (30, true), .bsl 1 [(.int .i64 0), (.int .i64 0), (.int .i64 0), (.int .i64 0), (.int .u32 0)] [(0, 5, (.t 31))]⟩,
  .op 25 ⟨some 33, some (30, true), .call n_opt_Opt [(.t 32)]⟩,
  .op 26 ⟨some 34, some (30, true), .len 1 (.t 33)⟩,
  .op 27 ⟨some 35, some (30, true), .bin .eql (.t 34) (.c (.int .i64 1))⟩,
  .op 28 ⟨some 36, none, .pick (.t 30) (.t 35) (.c (.bool false))⟩,
  .op 29 ⟨some 0, none, .mov (.t 36)⟩])
  (.ret)
def c1_pianolalaw20_known : C :=
 .seq (.ops [⟨some 4, none, .build [(.int .i64 0), (.int .i64 0), (.int .i64 0), (.int .i64 0), (.int .u32 0)] [(0, 1, (.c (.int .i64 1))), (1, 1, (.c (.int .i64 3))), (4, 1, (.c (.int .u32 1)))]⟩,
  ⟨some 5, none, .ldn 5 (.t 1)⟩,
  ⟨some 6, none, .bsl 2 [(.int .i64 0), (.int .i64 0), (.int .i64 0), (.int .i64 0), (.int .u32 0), (.int .i64 0), (.int .i64 0), (.int .i64 0), (.int .i64 0), (.int .u32 0)] [(0, 5, (.t 4)), (5, 5, (.t 5))]⟩,
  ⟨some 7, none, .call n_opt_Dead [(.t 6)]⟩,
  ⟨some 2, none, .mov (.t 7)⟩])
  (c0_pianolalaw20_known)
def c2_pianolalaw20_known : C :=
 .seq (.ops [⟨some 3, none, .build [(.int .i64 0), (.int .i64 0), (.int .i64 0), (.int .i64 0), (.int .u32 0)] [(0, 1, (.c (.int .i64 1))), (1, 1, (.c (.int .i64 3))), (4, 1, (.c (.int .u32 2)))]⟩,
  ⟨some 1, none, .new [(.int .i64 0), (.int .i64 0), (.int .i64 0), (.int .i64 0), (.int .u32 0)]⟩,
  ⟨none, none, .stn 5 (.t 1) (.t 3)⟩])
  (c1_pianolalaw20_known)
def c_pianolalaw20_known : C :=
 .seq (.ops [⟨some 0, none, .mov (.c (.bool false))⟩])
  (c2_pianolalaw20_known)
def f_pianolalaw20_known : F := ⟨c_pianolalaw20_known, [.t 0], some []⟩
theorem h_pianolalaw20_known : compF Try.prog (compAny Try.prog) n_pianolalaw20_known = some (f_pianolalaw20_known.body, f_pianolalaw20_known.res) := by kernel_rfl
/- pianola/pianolalaw20.near -/
def c0_pianolalaw20_near : C :=
 .seq (.seq (.ops [⟨some 42, none, .mov (.t 8)⟩,
  ⟨some 43, none, .bin .rem (.t 42) (.c (.int .i64 5))⟩,
  ⟨some 44, none, .bin .eql (.t 43) (.c (.int .i64 0))⟩])
  (.cond (.t 44)
  (.ops [⟨some 45, none, .fa 0 (.t 7)⟩,
  ⟨none, none, .st (.t 45) (.c (.int .i64 1))⟩])
  (.skip)))
  (.ops [⟨some 46, none, .mov (.t 5)⟩,
  ⟨some 47, none, .ldn 5 (.t 7)⟩,
  ⟨some 48, none, .bsl 1 [(.int .i64 0), (.int .i64 0), (.int .i64 0), (.int .i64 0), (.int .u32 0)] [(0, 5, (.t 47))]⟩,
  ⟨some 49, none, .app 5 40 (.t 46) (.t 48)⟩,
  ⟨some 5, none, .mov (.t 49)⟩])
def c1_pianolalaw20_near : C :=
 .seq (.any 0 [.op 2 ⟨some 29, none, .fa 1 (.t 7)⟩,
  .op 3 ⟨some 30, none, .ld (.t 29)⟩,
  .op 5 ⟨some 32, none, .fa 2 (.t 7)⟩,
  .op 6 ⟨some 33, none, .ld (.t 32)⟩,
  .op 8 ⟨some 35, none, .fa 3 (.t 7)⟩,
  .op 9 ⟨some 36, none, .ld (.t 35)⟩,
  .op 4 ⟨some 31, none, .call n_pianolalaw20_cell [(.t 30)]⟩,
  .re 6 ⟨some 33, none, .ld (.t 32)⟩,
  .re 9 ⟨some 36, none, .ld (.t 35)⟩,
  .op 7 ⟨some 34, none, .call n_pianolalaw20_cell [(.t 33)]⟩,
  .re 9 ⟨some 36, none, .ld (.t 35)⟩,
  .op 10 ⟨some 37, none, .call n_pianolalaw20_cell [(.t 36)]⟩,
  .op 0 ⟨some 27, none, .mov (.t 8)⟩,
  .op 1 ⟨some 28, none, .bin .rem (.t 27) (.c (.int .i64 23))⟩,
  .op 11 ⟨some 38, none, .fa 0 (.t 7)⟩,
  .op 12 ⟨none, none, .st (.t 38) (.t 28)⟩,
  .op 13 ⟨some 39, none, .fa 1 (.t 7)⟩,
  .op 14 ⟨none, none, .st (.t 39) (.t 31)⟩,
  .op 15 ⟨some 40, none, .fa 2 (.t 7)⟩,
  .op 16 ⟨none, none, .st (.t 40) (.t 34)⟩,
  .op 17 ⟨some 41, none, .fa 3 (.t 7)⟩,
  .op 18 ⟨none, none, .st (.t 41) (.t 37)⟩])
  (c0_pianolalaw20_near)
def c2_pianolalaw20_near : C :=
 .seq (.block 1
  (.seq (.ops [⟨some 20, none, .mov (.t 0)⟩,
  ⟨some 21, none, .mov (.t 6)⟩,
  ⟨some 22, none, .ia 5 (.t 20) (.t 21)⟩,
  ⟨some 23, none, .ldn 5 (.t 22)⟩,
  ⟨some 7, none, .new [(.int .i64 0), (.int .i64 0), (.int .i64 0), (.int .i64 0), (.int .u32 0)]⟩,
  ⟨none, none, .stn 5 (.t 7) (.t 23)⟩])
  (.seq (.ops [⟨some 24, none, .fa 0 (.t 7)⟩,
  ⟨some 25, none, .ld (.t 24)⟩,
  ⟨some 26, none, .call n_pianolabook_Within [(.t 25), (.c (.int .i64 0)), (.c (.int .i64 1048576))]⟩,
  ⟨some 8, none, .mov (.t 26)⟩])
  (c1_pianolalaw20_near))))
  (.ops [⟨some 18, none, .mov (.t 6)⟩,
  ⟨some 19, none, .bin .add (.t 18) (.c (.int .i64 1))⟩,
  ⟨some 6, none, .mov (.t 19)⟩])
def c3_pianolalaw20_near : C :=
 .seq (.seq (.ops [⟨some 9, none, .mov (.t 6)⟩,
  ⟨some 10, none, .mov (.t 0)⟩,
  ⟨some 11, none, .len 1 (.t 10)⟩,
  ⟨some 12, none, .bin .lss (.t 9) (.t 11)⟩,
  ⟨some 13, none, .mov (.t 12)⟩,
  ⟨some 14, some (13, true), .mov (.t 6)⟩,
  ⟨some 15, some (13, true), .mov (.t 1)⟩,
  ⟨some 16, some (13, true), .bin .lss (.t 14) (.t 15)⟩,
  ⟨some 17, none, .pick (.t 13) (.t 16) (.c (.bool false))⟩])
  (.cond (.t 17)
  (.skip)
  (.exit 0)))
  (c2_pianolalaw20_near)
def c_pianolalaw20_near : C :=
 .seq (.ops [⟨some 4, none, .mov (.c (.slice none 0 0))⟩])
  (.seq (.ops [⟨some 5, none, .mov (.c (.slice none 0 0))⟩])
  (.seq (.seq (.ops [⟨some 6, none, .mov (.c (.int .i64 0))⟩])
  (.block 0
  (.loop c3_pianolalaw20_near)))
  (.seq (.ops [⟨some 50, none, .mov (.t 5)⟩,
  ⟨some 4, none, .mov (.t 50)⟩])
  (.ret))))
def f_pianolalaw20_near : F := ⟨c_pianolalaw20_near, [.t 4], some []⟩
theorem h_pianolalaw20_near : compF Try.prog (compAny Try.prog) n_pianolalaw20_near = some (f_pianolalaw20_near.body, f_pianolalaw20_near.res) := by kernel_rfl
/- pianola/pianolabook.Same[pianola/ir.Op] -/
def c0_pianolabook_Same_ir_Op : C :=
 .seq (.block 1
  (.seq (.any 0 [.op 0 ⟨some 17, none, .mov (.t 0)⟩,
  .op 1 ⟨some 18, none, .mov (.t 5)⟩,
  .op 2 ⟨some 19, none, .ia 5 (.t 17) (.t 18)⟩,
  .op 3 ⟨some 20, none, .ldn 5 (.t 19)⟩,
  .op 4 ⟨some 21, none, .mov (.t 1)⟩,
  .op 5 ⟨some 22, none, .mov (.t 5)⟩,
  .op 6 ⟨some 23, none, .ia 5 (.t 21) (.t 22)⟩,
  .op 7 ⟨some 24, none, .ldn 5 (.t 23)⟩,
  .op 8 ⟨some 25, none, .eqt true (.agg [(0, 1, false, (.int .i64)), (1, 1, false, (.int .i64)), (2, 1, false, (.int .i64)), (3, 1, false, (.int .i64)), (4, 1, false, (.int .u32))]) (.t 20) (.t 24)⟩])
  (.cond (.t 25)
  (.seq (.ops [⟨some 4, none, .mov (.c (.bool false))⟩])
  (.ret))
  (.skip))))
  (.ops [⟨some 15, none, .mov (.t 5)⟩,
  ⟨some 16, none, .bin .add (.t 15) (.c (.int .i64 1))⟩,
  ⟨some 5, none, .mov (.t 16)⟩])
def c1_pianolabook_Same_ir_Op : C :=
 .seq (.seq (.ops [⟨some 11, none, .mov (.t 5)⟩,
  ⟨some 12, none, .mov (.t 0)⟩,
  ⟨some 13, none, .len 1 (.t 12)⟩,
  ⟨some 14, none, .bin .lss (.t 11) (.t 13)⟩])
  (.cond (.t 14)
  (.skip)
  (.exit 0)))
  (c0_pianolabook_Same_ir_Op)
def c2_pianolabook_Same_ir_Op : C :=
 .seq (.seq (.ops [⟨some 6, none, .mov (.t 0)⟩,
  ⟨some 7, none, .len 1 (.t 6)⟩,
  ⟨some 8, none, .mov (.t 1)⟩,
  ⟨some 9, none, .len 1 (.t 8)⟩,
  ⟨some 10, none, .bin .neq (.t 7) (.t 9)⟩])
  (.cond (.t 10)
  (.seq (.ops [⟨some 4, none, .mov (.c (.bool false))⟩])
  (.ret))
  (.skip)))
  (.seq (.seq (.ops [⟨some 5, none, .mov (.c (.int .i64 0))⟩])
  (.block 0
  (.loop c1_pianolabook_Same_ir_Op)))
  (.seq (.ops [⟨some 4, none, .mov (.c (.bool true))⟩])
  (.ret)))
def c_pianolabook_Same_ir_Op : C :=
 .seq (.ops [⟨some 4, none, .mov (.c (.bool false))⟩])
  (c2_pianolabook_Same_ir_Op)
def f_pianolabook_Same_ir_Op : F := ⟨c_pianolabook_Same_ir_Op, [.t 4], some []⟩
theorem h_pianolabook_Same_ir_Op : compF Try.prog (compAny Try.prog) n_pianolabook_Same_ir_Op = some (f_pianolabook_Same_ir_Op.body, f_pianolabook_Same_ir_Op.res) := by kernel_rfl
/- pianola/pianolalaw18.cell -/
def c0_pianolalaw18_cell : C :=
 .seq (.ops [⟨some 12, none, .bsl 8 [(.int .i64 0), (.int .i64 0), (.int .i64 0), (.int .i64 0), (.int .i64 0), (.int .i64 0), (.int .i64 0), (.int .i64 0)] [(0, 1, (.c (.int .i64 0))), (1, 1, (.c (.int .i64 1))), (2, 1, (.c (.int .i64 2))), (3, 1, (.c (.int .i64 3))), (4, 1, (.c (.int .i64 32))), (5, 1, (.c (.int .i64 33))), (6, 1, (.c (.int .i64 34))), (7, 1, (.c (.int .i64 35)))]⟩,
  ⟨some 13, none, .mov (.t 3)⟩,
  ⟨some 14, none, .bin .quo (.t 13) (.c (.int .i64 3))⟩,
  ⟨some 15, none, .bin .rem (.t 14) (.c (.int .i64 8))⟩,
  ⟨some 16, none, .ia 1 (.t 12) (.t 15)⟩,
  ⟨some 17, none, .ld (.t 16)⟩,
  ⟨some 2, none, .mov (.t 17)⟩])
  (.ret)
def c1_pianolalaw18_cell : C :=
 .seq (.seq (.ops [⟨some 6, none, .mov (.t 3)⟩,
  ⟨some 7, none, .bin .rem (.t 6) (.c (.int .i64 3))⟩,
  ⟨some 8, none, .bin .eql (.t 7) (.c (.int .i64 0))⟩])
  (.cond (.t 8)
  (.seq (.ops [⟨some 9, none, .mov (.t 3)⟩,
  ⟨some 10, none, .bin .quo (.t 9) (.c (.int .i64 3))⟩,
  ⟨some 11, none, .bin .rem (.t 10) (.c (.int .i64 40))⟩,
  ⟨some 2, none, .mov (.t 11)⟩])
  (.ret))
  (.skip)))
  (c0_pianolalaw18_cell)
def c_pianolalaw18_cell : C :=
 .seq (.ops [⟨some 2, none, .mov (.c (.int .i64 0))⟩])
  (.seq (.ops [⟨some 4, none, .mov (.t 0)⟩,
  ⟨some 5, none, .call n_pianolabook_Within [(.t 4), (.c (.int .i64 0)), (.c (.int .i64 1048576))]⟩,
  ⟨some 3, none, .mov (.t 5)⟩])
  (c1_pianolalaw18_cell))
def f_pianolalaw18_cell : F := ⟨c_pianolalaw18_cell, [.t 2], some []⟩
theorem h_pianolalaw18_cell : compF Try.prog (compAny Try.prog) n_pianolalaw18_cell = some (f_pianolalaw18_cell.body, f_pianolalaw18_cell.res) := by kernel_rfl
/- slices.ContainsFunc[[]pianola/ir.Op,pianola/ir.Op] -/
def c_slices_ContainsFunc_ir_Op_ir_Op : C :=
 .seq (.ops [⟨some 4, none, .mov (.c (.bool false))⟩])
  (.seq (.ops [⟨some 5, none, .mov (.t 0)⟩,
  ⟨some 6, none, .mov (.t 1)⟩,
  ⟨some 7, none, .call n_slices_IndexFunc_ir_Op_ir_Op [(.t 5), (.t 6)]⟩,
  ⟨some 8, none, .bin .geq (.t 7) (.c (.int .i64 0))⟩,
  ⟨some 4, none, .mov (.t 8)⟩])
  (.ret))
def f_slices_ContainsFunc_ir_Op_ir_Op : F := ⟨c_slices_ContainsFunc_ir_Op_ir_Op, [.t 4], some []⟩
theorem h_slices_ContainsFunc_ir_Op_ir_Op : compF Try.prog (compAny Try.prog) n_slices_ContainsFunc_ir_Op_ir_Op = some (f_slices_ContainsFunc_ir_Op_ir_Op.body, f_slices_ContainsFunc_ir_Op_ir_Op.res) := by kernel_rfl
/- pianola/ir.Run$1 -/
def c_ir_Run_1 : C :=
 .seq (.ops [⟨some 1, none, .box (.t 0)⟩,
  ⟨some 2, none, .mov (.c (.bool false))⟩])
  (.seq (.ops [⟨some 3, none, .ldn 5 (.t 1)⟩,
  ⟨some 4, none, .call n_ir_Right [(.t 3)]⟩,
  ⟨some 5, none, .un .not (.t 4)⟩,
  ⟨some 2, none, .mov (.t 5)⟩])
  (.ret))
def f_ir_Run_1 : F := ⟨c_ir_Run_1, [.t 2], some []⟩
theorem h_ir_Run_1 : compF Try.prog (compAny Try.prog) n_ir_Run_1 = some (f_ir_Run_1.body, f_ir_Run_1.res) := by kernel_rfl
/- pianola/ir.Right -/
def c0_ir_Right : C :=
 .seq (.ops [⟨some 17, none, .mov (.t 4)⟩,
  ⟨some 18, none, .bin .lss (.t 17) (.c (.int .i64 0))⟩,
  ⟨some 19, none, .mov (.t 18)⟩,
  ⟨some 20, some (19, false), .mov (.t 4)⟩,
  ⟨some 21, some (19, false), .bin .geq (.t 20) (.c (.int .i64 40))⟩,
  ⟨some 22, none, .pick (.t 19) (.c (.bool true)) (.t 21)⟩])
  (.cond (.t 22)
  (.seq (.ops [⟨some 2, none, .mov (.c (.bool false))⟩])
  (.ret))
  (.skip))
def c1_ir_Right : C :=
 .seq (.ops [⟨some 14, none, .bin .lss (.t 13) (.t 12)⟩])
  (.seq (.cond (.t 14)
  (.skip)
  (.exit 0))
  (.seq (.block 1
  (.seq (.ops [⟨some 15, none, .ia 1 (.t 11) (.t 13)⟩,
  ⟨some 16, none, .ld (.t 15)⟩,
  ⟨some 4, none, .mov (.t 16)⟩])
  (c0_ir_Right)))
  (.ops [⟨some 23, none, .bin .add (.t 13) (.c (.int .i64 1))⟩,
  ⟨some 13, none, .mov (.t 23)⟩])))
def c2_ir_Right : C :=
 .seq (.ops [⟨some 24, none, .fa 0 (.t 1)⟩,
  ⟨some 25, none, .ld (.t 24)⟩,
  ⟨some 26, none, .bin .geq (.t 25) (.c (.int .i64 0))⟩,
  ⟨some 27, none, .mov (.t 26)⟩,
  ⟨some 28, some (27, true), .fa 0 (.t 1)⟩,
  ⟨some 29, some (27, true), .ld (.t 28)⟩,
  ⟨some 30, some (27, true), .bin .leq (.t 29) (.c (.int .i64 22))⟩,
  ⟨some 31, none, .pick (.t 27) (.t 30) (.c (.bool false))⟩,
  ⟨some 2, none, .mov (.t 31)⟩])
  (.ret)
def c3_ir_Right : C :=
 .seq (.seq (.ops [⟨some 5, none, .fa 1 (.t 1)⟩,
  ⟨some 6, none, .ld (.t 5)⟩,
  ⟨some 7, none, .fa 2 (.t 1)⟩,
  ⟨some 8, none, .ld (.t 7)⟩,
  ⟨some 9, none, .fa 3 (.t 1)⟩,
  ⟨some 10, none, .ld (.t 9)⟩,
  ⟨some 11, none, .bsl 3 [(.int .i64 0), (.int .i64 0), (.int .i64 0)] [(0, 1, (.t 6)), (1, 1, (.t 8)), (2, 1, (.t 10))]⟩,
  ⟨some 12, none, .len 1 (.t 11)⟩,
  ⟨some 13, none, .mov (.c (.int .i64 0))⟩])
  (.block 0
  (.loop c1_ir_Right)))
  (c2_ir_Right)
def c_ir_Right : C :=
 .seq (.ops [⟨some 1, none, .box (.t 0)⟩,
  ⟨some 2, none, .mov (.c (.bool false))⟩])
  (c3_ir_Right)
def f_ir_Right : F := ⟨c_ir_Right, [.t 2], some []⟩
theorem h_ir_Right : compF Try.prog (compAny Try.prog) n_ir_Right = some (f_ir_Right.body, f_ir_Right.res) := by kernel_rfl
/- (*pianola/ir.Regs).do -/
def c0_ir_Regs_do : C :=
 .any 0 [.op 2 ⟨some 40, none, .mov (.t 4)⟩,
  .op 3 ⟨some 41, none, .mov (.t 5)⟩,
  .op 4 ⟨some 42, none, .mov (.t 6)⟩,
  .op 5 ⟨some 43, none, .bin .eql (.t 42) (.c (.int .i64 17))⟩,
  .op 6 ⟨some 44, none, .call n_word_Mul [(.t 40), (.t 41), (.t 43)]⟩,
  .op 0 ⟨some 38, none, .mov (.t 0)⟩,
  .op 7 ⟨some 37, none, .mov (.t 44)⟩,
  .op 8 ⟨some 45, none, .ext (.t 37) 0⟩,
  .op 10 ⟨some 47, none, .nilc (.t 38)⟩,
  .op 11 ⟨some 48, none, .iaa 40 1 (.t 47) (.c (.int .i64 32))⟩,
  .op 12 ⟨none, none, .st (.t 48) (.t 45)⟩,
  .op 1 ⟨some 39, none, .mov (.t 0)⟩,
  .op 9 ⟨some 46, none, .ext (.t 37) 1⟩,
  .op 13 ⟨some 49, none, .nilc (.t 39)⟩,
  .op 14 ⟨some 50, none, .iaa 40 1 (.t 49) (.c (.int .i64 33))⟩,
  .op 15 ⟨none, none, .st (.t 50) (.t 46)⟩]
def c1_ir_Regs_do : C :=
 .any 0 [.op 2 ⟨some 61, none, .mov (.t 4)⟩,
  .op 3 ⟨some 62, none, .mov (.t 5)⟩,
  .op 4 ⟨some 63, none, .mov (.t 6)⟩,
  .op 5 ⟨some 64, none, .bin .eql (.t 63) (.c (.int .i64 19))⟩,
  .op 6 ⟨some 65, none, .call n_word_Div [(.t 61), (.t 62), (.t 64)]⟩,
  .op 0 ⟨some 59, none, .mov (.t 0)⟩,
  .op 7 ⟨some 58, none, .mov (.t 65)⟩,
  .op 8 ⟨some 66, none, .ext (.t 58) 0⟩,
  .op 10 ⟨some 68, none, .nilc (.t 59)⟩,
  .op 11 ⟨some 69, none, .iaa 40 1 (.t 68) (.c (.int .i64 33))⟩,
  .op 12 ⟨none, none, .st (.t 69) (.t 66)⟩,
  .op 1 ⟨some 60, none, .mov (.t 0)⟩,
  .op 9 ⟨some 67, none, .ext (.t 58) 1⟩,
  .op 13 ⟨some 70, none, .nilc (.t 60)⟩,
  .op 14 ⟨some 71, none, .iaa 40 1 (.t 70) (.c (.int .i64 32))⟩,
  .op 15 ⟨none, none, .st (.t 71) (.t 67)⟩]
def c2_ir_Regs_do : C :=
 .any 0 [.op 1 ⟨some 22, none, .fa 1 (.t 3)⟩,
  .op 2 ⟨some 23, none, .ld (.t 22)⟩,
  .op 3 ⟨some 24, none, .ldn 5 (.t 3)⟩,
  .op 4 ⟨some 25, none, .mov (.t 4)⟩,
  .op 5 ⟨some 26, none, .mov (.t 5)⟩,
  .op 6 ⟨some 27, none, .call n_ir_of [(.t 24), (.t 25), (.t 26)]⟩,
  .re 2 ⟨some 23, none, .ld (.t 22)⟩,
  .op 0 ⟨some 21, none, .mov (.t 0)⟩,
  .op 7 ⟨some 28, none, .nilc (.t 21)⟩,
  .op 8 ⟨some 29, none, .iaa 40 1 (.t 28) (.t 23)⟩,
  .op 9 ⟨none, none, .st (.t 29) (.t 27)⟩]
def c3_ir_Regs_do : C :=
 .seq (.ops [⟨some 73, none, .mov (.t 6)⟩,
  ⟨some 74, none, .bin .eql (.t 73) (.c (.int .i64 0))⟩,
  ⟨some 75, none, .mov (.t 74)⟩,
  ⟨some 76, some (75, false), .fa 1 (.t 3)⟩,
  ⟨some 77, some (75, false), .ld (.t 76)⟩,
  ⟨some 78, some (75, false), .bin .eql (.t 77) (.c (.int .i64 0))⟩,
  ⟨some 79, none, .pick (.t 75) (.c (.bool true)) (.t 78)⟩,
  ⟨some 80, none, .mov (.t 79)⟩,
  ⟨some 81, some (80, false), .mov (.t 6)⟩,
  ⟨some 82, some (80, false), .bin .eql (.t 81) (.c (.int .i64 21))⟩,
  ⟨some 83, some (80, false), .mov (.t 82)⟩,
  ⟨some 84, some (83, false), .mov (.t 6)⟩,
  ⟨some 85, some (83, false), .bin .eql (.t 84) (.c (.int .i64 22))⟩,
  ⟨some 86, some (80, false), .pick (.t 83) (.c (.bool true)) (.t 85)⟩,
  ⟨some 87, some (80, false), .mov (.t 86)⟩,
  ⟨some 88, some (87, true), .mov (.t 5)⟩,
  ⟨some 89, some (87, true), .bin .eql (.t 88) (.c (.int .u32 0))⟩,
  ⟨some 90, some (87, true), .mov (.t 6)⟩,
  ⟨some 91, some (87, true), .bin .eql (.t 90) (.c (.int .i64 21))⟩,
  ⟨some 92, some (87, true), .eqb true (.t 89) (.t 91)⟩,
  ⟨some 93, some (80, false), .pick (.t 87) (.t 92) (.c (.bool false))⟩,
  ⟨some 94, none, .pick (.t 80) (.c (.bool true)) (.t 93)⟩,
  ⟨some 72, none, .mov (.t 94)⟩])
  (.cond (.t 72)
  (.skip)
  (c2_ir_Regs_do))
def c4_ir_Regs_do : C :=
 .seq (.ops [⟨some 52, none, .mov (.t 6)⟩,
  ⟨some 53, none, .bin .eql (.t 52) (.c (.int .i64 19))⟩,
  ⟨some 54, none, .mov (.t 53)⟩,
  ⟨some 55, some (54, false), .mov (.t 6)⟩,
  ⟨some 56, some (54, false), .bin .eql (.t 55) (.c (.int .i64 20))⟩,
  ⟨some 57, none, .pick (.t 54) (.c (.bool true)) (.t 56)⟩,
  ⟨some 51, none, .mov (.t 57)⟩])
  (.cond (.t 51)
  (c1_ir_Regs_do)
  (c3_ir_Regs_do))
def c5_ir_Regs_do : C :=
 .block 0
  (.seq (.ops [⟨some 31, none, .mov (.t 6)⟩,
  ⟨some 32, none, .bin .eql (.t 31) (.c (.int .i64 17))⟩,
  ⟨some 33, none, .mov (.t 32)⟩,
  ⟨some 34, some (33, false), .mov (.t 6)⟩,
  ⟨some 35, some (33, false), .bin .eql (.t 34) (.c (.int .i64 18))⟩,
  ⟨some 36, none, .pick (.t 33) (.c (.bool true)) (.t 35)⟩,
  ⟨some 30, none, .mov (.t 36)⟩])
  (.cond (.t 30)
  (c0_ir_Regs_do)
  (c4_ir_Regs_do)))
def c6_ir_Regs_do : C :=
 .seq (.any 0 [.op 0 ⟨some 7, none, .mov (.t 0)⟩,
  .op 1 ⟨some 8, none, .fa 2 (.t 3)⟩,
  .op 2 ⟨some 9, none, .ld (.t 8)⟩,
  .op 3 ⟨some 10, none, .nilc (.t 7)⟩,
  .op 4 ⟨some 11, none, .iaa 40 1 (.t 10) (.t 9)⟩,
  .op 5 ⟨some 12, none, .ld (.t 11)⟩,
  .op 6 ⟨some 13, none, .mov (.t 0)⟩,
  .op 7 ⟨some 14, none, .fa 3 (.t 3)⟩,
  .op 8 ⟨some 15, none, .ld (.t 14)⟩,
  .op 9 ⟨some 16, none, .nilc (.t 13)⟩,
  .op 10 ⟨some 17, none, .iaa 40 1 (.t 16) (.t 15)⟩,
  .op 11 ⟨some 18, none, .ld (.t 17)⟩,
  .op 12 ⟨some 4, none, .mov (.t 12)⟩,
  .op 13 ⟨some 5, none, .mov (.t 18)⟩])
  (.seq (.ops [⟨some 19, none, .fa 0 (.t 3)⟩,
  ⟨some 20, none, .ld (.t 19)⟩,
  ⟨some 6, none, .mov (.t 20)⟩])
  (c5_ir_Regs_do))
def c_ir_Regs_do : C :=
 .seq (.ops [⟨some 3, none, .box (.t 1)⟩])
  (c6_ir_Regs_do)
def f_ir_Regs_do : F := ⟨c_ir_Regs_do, [], some []⟩
theorem h_ir_Regs_do : compF Try.prog (compAny Try.prog) n_ir_Regs_do = some (f_ir_Regs_do.body, f_ir_Regs_do.res) := by kernel_rfl
/- pianola/pianolabook.Same[int] -/
def c0_pianolabook_Same_int : C :=
 .seq (.block 1
  (.seq (.any 0 [.op 0 ⟨some 17, none, .mov (.t 0)⟩,
  .op 1 ⟨some 18, none, .mov (.t 5)⟩,
  .op 2 ⟨some 19, none, .ia 1 (.t 17) (.t 18)⟩,
  .op 3 ⟨some 20, none, .ld (.t 19)⟩,
  .op 4 ⟨some 21, none, .mov (.t 1)⟩,
  .op 5 ⟨some 22, none, .mov (.t 5)⟩,
  .op 6 ⟨some 23, none, .ia 1 (.t 21) (.t 22)⟩,
  .op 7 ⟨some 24, none, .ld (.t 23)⟩,
  .op 8 ⟨some 25, none, .bin .neq (.t 20) (.t 24)⟩])
  (.cond (.t 25)
  (.seq (.ops [⟨some 4, none, .mov (.c (.bool false))⟩])
  (.ret))
  (.skip))))
  (.ops [⟨some 15, none, .mov (.t 5)⟩,
  ⟨some 16, none, .bin .add (.t 15) (.c (.int .i64 1))⟩,
  ⟨some 5, none, .mov (.t 16)⟩])
def c1_pianolabook_Same_int : C :=
 .seq (.seq (.ops [⟨some 11, none, .mov (.t 5)⟩,
  ⟨some 12, none, .mov (.t 0)⟩,
  ⟨some 13, none, .len 1 (.t 12)⟩,
  ⟨some 14, none, .bin .lss (.t 11) (.t 13)⟩])
  (.cond (.t 14)
  (.skip)
  (.exit 0)))
  (c0_pianolabook_Same_int)
def c2_pianolabook_Same_int : C :=
 .seq (.seq (.ops [⟨some 6, none, .mov (.t 0)⟩,
  ⟨some 7, none, .len 1 (.t 6)⟩,
  ⟨some 8, none, .mov (.t 1)⟩,
  ⟨some 9, none, .len 1 (.t 8)⟩,
  ⟨some 10, none, .bin .neq (.t 7) (.t 9)⟩])
  (.cond (.t 10)
  (.seq (.ops [⟨some 4, none, .mov (.c (.bool false))⟩])
  (.ret))
  (.skip)))
  (.seq (.seq (.ops [⟨some 5, none, .mov (.c (.int .i64 0))⟩])
  (.block 0
  (.loop c1_pianolabook_Same_int)))
  (.seq (.ops [⟨some 4, none, .mov (.c (.bool true))⟩])
  (.ret)))
def c_pianolabook_Same_int : C :=
 .seq (.ops [⟨some 4, none, .mov (.c (.bool false))⟩])
  (c2_pianolabook_Same_int)
def f_pianolabook_Same_int : F := ⟨c_pianolabook_Same_int, [.t 4], some []⟩
theorem h_pianolabook_Same_int : compF Try.prog (compAny Try.prog) n_pianolabook_Same_int = some (f_pianolabook_Same_int.body, f_pianolabook_Same_int.res) := by kernel_rfl
/- pianola/pianolaref18.Right -/
def c0_pianolaref18_Right : C :=
 .seq (.ops [⟨some 3, none, .fa 0 (.t 1)⟩,
  ⟨some 4, none, .ld (.t 3)⟩,
  ⟨some 5, none, .bin .geq (.t 4) (.c (.int .i64 0))⟩,
  ⟨some 6, none, .mov (.t 5)⟩,
  ⟨some 7, some (6, true), .fa 0 (.t 1)⟩,
  ⟨some 8, some (6, true), .ld (.t 7)⟩,
  ⟨some 9, some (6, true), .bin .leq (.t 8) (.c (.int .i64 22))⟩,
  ⟨some 10, none, .pick (.t 6) (.t 9) (.c (.bool false))⟩,
  ⟨some 11, none, .mov (.t 10)⟩,
  ⟨some 12, some (11, true), .fa 1 (.t 1)⟩,
  ⟨some 13, some (11, true), .ld (.t 12)⟩,
  ⟨some 14, some (11, true), .bin .geq (.t 13) (.c (.int .i64 0))⟩,
  ⟨some 15, none, .pick (.t 11) (.t 14) (.c (.bool false))⟩,
  ⟨some 16, none, .mov (.t 15)⟩,
  ⟨some 17, some (16, true), .fa 1 (.t 1)⟩,
  ⟨some 18, some (16, true), .ld (.t 17)⟩,
  ⟨some 19, some (16, true), .bin .lss (.t 18) (.c (.int .i64 40))⟩,
  ⟨some 20, none, .pick (.t 16) (.t 19) (.c (.bool false))⟩,
  ⟨some 21, none, .mov (.t 20)⟩,
  ⟨some 22, some (21, true), .fa 2 (.t 1)⟩,
  ⟨some 23, some (21, true), .ld (.t 22)⟩,
  ⟨some 24, some (21, true), .bin .geq (.t 23) (.c (.int .i64 0))⟩,
  ⟨some 25, none, .pick (.t 21) (.t 24) (.c (.bool false))⟩,
  ⟨some 26, none, .mov (.t 25)⟩,
  ⟨some 27, some (26, true), .fa 2 (.t 1)⟩,
  ⟨some 28, some (26, true), .ld (.t 27)⟩,
  ⟨some 29, some (26, true), .bin .lss (.t 28) (.c (.int .i64 40))⟩,
  ⟨some 30, none, .pick (.t 26) (.t 29) (.c (.bool false))⟩,
  ⟨some 31, none, .mov (.t 30)⟩,
  ⟨some 32, some (31, true), .fa 3 (.t 1)⟩,
  ⟨some 33, some (31, true), .ld (.t 32)⟩,
  ⟨some 34, some (31, true), .bin .geq (.t 33) (.c (.int .i64 0))⟩,
  ⟨some 35, none, .pick (.t 31) (.t 34) (.c (.bool false))⟩,
  ⟨some 36, none, .mov (.t 35)⟩,
  ⟨some 37, some (36, true), .fa 3 (.t 1)⟩,
  ⟨some 38, some (36, true), .ld (.t 37)⟩,
  ⟨some 39, some (36, true), .bin .lss (.t 38) (.c (.int .i64 40))⟩,
  ⟨some 40, none, .pick (.t 36) (.t 39) (.c (.bool false))⟩,
  ⟨some 2, none, .mov (.t 40)⟩])
  (.ret)
def c_pianolaref18_Right : C :=
 .seq (.ops [⟨some 1, none, .box (.t 0)⟩,
  ⟨some 2, none, .mov (.c (.bool false))⟩])
  (c0_pianolaref18_Right)
def f_pianolaref18_Right : F := ⟨c_pianolaref18_Right, [.t 2], some []⟩
theorem h_pianolaref18_Right : compF Try.prog (compAny Try.prog) n_pianolaref18_Right = some (f_pianolaref18_Right.body, f_pianolaref18_Right.res) := by kernel_rfl
/- pianola/pianolaref18.Reads -/
def c0_pianolaref18_Reads : C :=
 .seq (.ops [⟨some 34, none, .fa 2 (.t 1)⟩,
  ⟨some 35, none, .ld (.t 34)⟩,
  ⟨some 36, none, .fa 3 (.t 1)⟩,
  ⟨some 37, none, .ld (.t 36)⟩,
  ⟨some 38, none, .fa 1 (.t 1)⟩,
  ⟨some 39, none, .ld (.t 38)⟩,
  ⟨some 40, none, .bsl 3 [(.int .i64 0), (.int .i64 0), (.int .i64 0)] [(0, 1, (.t 35)), (1, 1, (.t 37)), (2, 1, (.t 39))]⟩,
  ⟨some 41, none, .call n_pianolaref18_sorted [(.t 40)]⟩,
  ⟨some 2, none, .mov (.t 41)⟩])
  (.ret)
def c1_pianolaref18_Reads : C :=
 .cond (.t 12)
  (.seq (.ops [⟨some 26, none, .fa 2 (.t 1)⟩,
  ⟨some 27, none, .ld (.t 26)⟩,
  ⟨some 28, none, .bsl 1 [(.int .i64 0)] [(0, 1, (.t 27))]⟩,
  ⟨some 29, none, .call n_pianolaref18_sorted [(.t 28)]⟩,
  ⟨some 2, none, .mov (.t 29)⟩])
  (.ret))
  (.seq (.ops [⟨some 31, none, .fa 0 (.t 1)⟩,
  ⟨some 32, none, .ld (.t 31)⟩,
  ⟨some 33, none, .bin .geq (.t 32) (.c (.int .i64 21))⟩,
  ⟨some 30, none, .mov (.t 33)⟩])
  (.cond (.t 30)
  (c0_pianolaref18_Reads)
  (.skip)))
def c2_pianolaref18_Reads : C :=
 .seq (.ops [⟨some 13, none, .fa 0 (.t 1)⟩,
  ⟨some 14, none, .ld (.t 13)⟩,
  ⟨some 15, none, .bin .eql (.t 14) (.c (.int .i64 2))⟩,
  ⟨some 16, none, .mov (.t 15)⟩,
  ⟨some 17, some (16, false), .fa 0 (.t 1)⟩,
  ⟨some 18, some (16, false), .ld (.t 17)⟩,
  ⟨some 19, some (16, false), .bin .eql (.t 18) (.c (.int .i64 15))⟩,
  ⟨some 20, none, .pick (.t 16) (.c (.bool true)) (.t 19)⟩,
  ⟨some 21, none, .mov (.t 20)⟩,
  ⟨some 22, some (21, false), .fa 0 (.t 1)⟩,
  ⟨some 23, some (21, false), .ld (.t 22)⟩,
  ⟨some 24, some (21, false), .bin .eql (.t 23) (.c (.int .i64 16))⟩,
  ⟨some 25, none, .pick (.t 21) (.c (.bool true)) (.t 24)⟩,
  ⟨some 12, none, .mov (.t 25)⟩])
  (c1_pianolaref18_Reads)
def c3_pianolaref18_Reads : C :=
 .seq (.ops [⟨some 42, none, .fa 2 (.t 1)⟩,
  ⟨some 43, none, .ld (.t 42)⟩,
  ⟨some 44, none, .fa 3 (.t 1)⟩,
  ⟨some 45, none, .ld (.t 44)⟩,
  ⟨some 46, none, .bsl 2 [(.int .i64 0), (.int .i64 0)] [(0, 1, (.t 43)), (1, 1, (.t 45))]⟩,
  ⟨some 47, none, .call n_pianolaref18_sorted [(.t 46)]⟩,
  ⟨some 2, none, .mov (.t 47)⟩])
  (.ret)
def c4_pianolaref18_Reads : C :=
 .seq (.block 0
  (.seq (.ops [⟨some 4, none, .ldn 5 (.t 1)⟩,
  ⟨some 5, none, .call n_pianolaref18_Right [(.t 4)]⟩,
  ⟨some 6, none, .un .not (.t 5)⟩,
  ⟨some 7, none, .mov (.t 6)⟩,
  ⟨some 8, some (7, false), .fa 0 (.t 1)⟩,
  ⟨some 9, some (7, false), .ld (.t 8)⟩,
  ⟨some 10, some (7, false), .bin .leq (.t 9) (.c (.int .i64 1))⟩,
  ⟨some 11, none, .pick (.t 7) (.c (.bool true)) (.t 10)⟩,
  ⟨some 3, none, .mov (.t 11)⟩])
  (.cond (.t 3)
  (.seq (.ops [⟨some 2, none, .mov (.c (.slice none 0 0))⟩])
  (.ret))
  (c2_pianolaref18_Reads))))
  (c3_pianolaref18_Reads)
def c_pianolaref18_Reads : C :=
 .seq (.ops [⟨some 1, none, .box (.t 0)⟩,
  ⟨some 2, none, .mov (.c (.slice none 0 0))⟩])
  (c4_pianolaref18_Reads)
def f_pianolaref18_Reads : F := ⟨c_pianolaref18_Reads, [.t 2], some []⟩
theorem h_pianolaref18_Reads : compF Try.prog (compAny Try.prog) n_pianolaref18_Reads = some (f_pianolaref18_Reads.body, f_pianolaref18_Reads.res) := by kernel_rfl
/- pianola/pianolaref18.Writes -/
def c0_pianolaref18_Writes : C :=
 .cond (.t 12)
  (.seq (.ops [⟨some 21, none, .bsl 2 [(.int .i64 0), (.int .i64 0)] [(0, 1, (.c (.int .i64 32))), (1, 1, (.c (.int .i64 33)))]⟩,
  ⟨some 2, none, .mov (.t 21)⟩])
  (.ret))
  (.seq (.ops [⟨some 23, none, .fa 1 (.t 1)⟩,
  ⟨some 24, none, .ld (.t 23)⟩,
  ⟨some 25, none, .bin .eql (.t 24) (.c (.int .i64 0))⟩,
  ⟨some 22, none, .mov (.t 25)⟩])
  (.cond (.t 22)
  (.seq (.ops [⟨some 2, none, .mov (.c (.slice none 0 0))⟩])
  (.ret))
  (.skip)))
def c1_pianolaref18_Writes : C :=
 .seq (.ops [⟨some 13, none, .fa 0 (.t 1)⟩,
  ⟨some 14, none, .ld (.t 13)⟩,
  ⟨some 15, none, .bin .geq (.t 14) (.c (.int .i64 17))⟩,
  ⟨some 16, none, .mov (.t 15)⟩,
  ⟨some 17, some (16, true), .fa 0 (.t 1)⟩,
  ⟨some 18, some (16, true), .ld (.t 17)⟩,
  ⟨some 19, some (16, true), .bin .leq (.t 18) (.c (.int .i64 20))⟩,
  ⟨some 20, none, .pick (.t 16) (.t 19) (.c (.bool false))⟩,
  ⟨some 12, none, .mov (.t 20)⟩])
  (c0_pianolaref18_Writes)
def c2_pianolaref18_Writes : C :=
 .seq (.block 0
  (.seq (.ops [⟨some 4, none, .ldn 5 (.t 1)⟩,
  ⟨some 5, none, .call n_pianolaref18_Right [(.t 4)]⟩,
  ⟨some 6, none, .un .not (.t 5)⟩,
  ⟨some 7, none, .mov (.t 6)⟩,
  ⟨some 8, some (7, false), .fa 0 (.t 1)⟩,
  ⟨some 9, some (7, false), .ld (.t 8)⟩,
  ⟨some 10, some (7, false), .bin .eql (.t 9) (.c (.int .i64 0))⟩,
  ⟨some 11, none, .pick (.t 7) (.c (.bool true)) (.t 10)⟩,
  ⟨some 3, none, .mov (.t 11)⟩])
  (.cond (.t 3)
  (.seq (.ops [⟨some 2, none, .mov (.c (.slice none 0 0))⟩])
  (.ret))
  (c1_pianolaref18_Writes))))
  (.seq (.ops [⟨some 26, none, .fa 1 (.t 1)⟩,
  ⟨some 27, none, .ld (.t 26)⟩,
  ⟨some 28, none, .bsl 1 [(.int .i64 0)] [(0, 1, (.t 27))]⟩,
  ⟨some 2, none, .mov (.t 28)⟩])
  (.ret))
def c_pianolaref18_Writes : C :=
 .seq (.ops [⟨some 1, none, .box (.t 0)⟩,
  ⟨some 2, none, .mov (.c (.slice none 0 0))⟩])
  (c2_pianolaref18_Writes)
def f_pianolaref18_Writes : F := ⟨c_pianolaref18_Writes, [.t 2], some []⟩
theorem h_pianolaref18_Writes : compF Try.prog (compAny Try.prog) n_pianolaref18_Writes = some (f_pianolaref18_Writes.body, f_pianolaref18_Writes.res) := by kernel_rfl
/- pianola/pianolaref18.Run -/
def c0_pianolaref18_Run : C :=
 .seq (.block 1
  (.seq (.ops [⟨some 13, none, .mov (.t 1)⟩,
  ⟨some 14, none, .mov (.t 5)⟩,
  ⟨some 15, none, .ia 5 (.t 13) (.t 14)⟩,
  ⟨some 16, none, .ldn 5 (.t 15)⟩,
  ⟨some 17, none, .call n_pianolaref18_Right [(.t 16)]⟩,
  ⟨some 18, none, .un .not (.t 17)⟩])
  (.cond (.t 18)
  (.seq (.ops [⟨some 4, none, .mov (.c (.bool false))⟩])
  (.ret))
  (.skip))))
  (.ops [⟨some 11, none, .mov (.t 5)⟩,
  ⟨some 12, none, .bin .add (.t 11) (.c (.int .i64 1))⟩,
  ⟨some 5, none, .mov (.t 12)⟩])
def c1_pianolaref18_Run : C :=
 .seq (.seq (.ops [⟨some 7, none, .mov (.t 5)⟩,
  ⟨some 8, none, .mov (.t 1)⟩,
  ⟨some 9, none, .len 1 (.t 8)⟩,
  ⟨some 10, none, .bin .lss (.t 7) (.t 9)⟩])
  (.cond (.t 10)
  (.skip)
  (.exit 0)))
  (c0_pianolaref18_Run)
def c2_pianolaref18_Run : C :=
 .seq (.block 3
  (.ops [⟨some 25, none, .mov (.t 0)⟩,
  ⟨some 26, none, .mov (.t 1)⟩,
  ⟨some 27, none, .mov (.t 6)⟩,
  ⟨some 28, none, .ia 5 (.t 26) (.t 27)⟩,
  ⟨some 29, none, .ldn 5 (.t 28)⟩,
  ⟨some 30, none, .call n_pianolaref18_One [(.t 25), (.t 29)]⟩]))
  (.ops [⟨some 23, none, .mov (.t 6)⟩,
  ⟨some 24, none, .bin .add (.t 23) (.c (.int .i64 1))⟩,
  ⟨some 6, none, .mov (.t 24)⟩])
def c3_pianolaref18_Run : C :=
 .seq (.seq (.ops [⟨some 19, none, .mov (.t 6)⟩,
  ⟨some 20, none, .mov (.t 1)⟩,
  ⟨some 21, none, .len 1 (.t 20)⟩,
  ⟨some 22, none, .bin .lss (.t 19) (.t 21)⟩])
  (.cond (.t 22)
  (.skip)
  (.exit 2)))
  (c2_pianolaref18_Run)
def c_pianolaref18_Run : C :=
 .seq (.ops [⟨some 4, none, .mov (.c (.bool false))⟩])
  (.seq (.seq (.ops [⟨some 5, none, .mov (.c (.int .i64 0))⟩])
  (.block 0
  (.loop c1_pianolaref18_Run)))
  (.seq (.seq (.ops [⟨some 6, none, .mov (.c (.int .i64 0))⟩])
  (.block 2
  (.loop c3_pianolaref18_Run)))
  (.seq (.ops [⟨some 4, none, .mov (.c (.bool true))⟩])
  (.ret))))
def f_pianolaref18_Run : F := ⟨c_pianolaref18_Run, [.t 4], some []⟩
theorem h_pianolaref18_Run : compF Try.prog (compAny Try.prog) n_pianolaref18_Run = some (f_pianolaref18_Run.body, f_pianolaref18_Run.res) := by kernel_rfl
/- pianola/pianolabook.Same[uint32] -/
def c0_pianolabook_Same_uint32 : C :=
 .seq (.block 1
  (.seq (.any 0 [.op 0 ⟨some 17, none, .mov (.t 0)⟩,
  .op 1 ⟨some 18, none, .mov (.t 5)⟩,
  .op 2 ⟨some 19, none, .ia 1 (.t 17) (.t 18)⟩,
  .op 3 ⟨some 20, none, .ld (.t 19)⟩,
  .op 4 ⟨some 21, none, .mov (.t 1)⟩,
  .op 5 ⟨some 22, none, .mov (.t 5)⟩,
  .op 6 ⟨some 23, none, .ia 1 (.t 21) (.t 22)⟩,
  .op 7 ⟨some 24, none, .ld (.t 23)⟩,
  .op 8 ⟨some 25, none, .bin .neq (.t 20) (.t 24)⟩])
  (.cond (.t 25)
  (.seq (.ops [⟨some 4, none, .mov (.c (.bool false))⟩])
  (.ret))
  (.skip))))
  (.ops [⟨some 15, none, .mov (.t 5)⟩,
  ⟨some 16, none, .bin .add (.t 15) (.c (.int .i64 1))⟩,
  ⟨some 5, none, .mov (.t 16)⟩])
def c1_pianolabook_Same_uint32 : C :=
 .seq (.seq (.ops [⟨some 11, none, .mov (.t 5)⟩,
  ⟨some 12, none, .mov (.t 0)⟩,
  ⟨some 13, none, .len 1 (.t 12)⟩,
  ⟨some 14, none, .bin .lss (.t 11) (.t 13)⟩])
  (.cond (.t 14)
  (.skip)
  (.exit 0)))
  (c0_pianolabook_Same_uint32)
def c2_pianolabook_Same_uint32 : C :=
 .seq (.seq (.ops [⟨some 6, none, .mov (.t 0)⟩,
  ⟨some 7, none, .len 1 (.t 6)⟩,
  ⟨some 8, none, .mov (.t 1)⟩,
  ⟨some 9, none, .len 1 (.t 8)⟩,
  ⟨some 10, none, .bin .neq (.t 7) (.t 9)⟩])
  (.cond (.t 10)
  (.seq (.ops [⟨some 4, none, .mov (.c (.bool false))⟩])
  (.ret))
  (.skip)))
  (.seq (.seq (.ops [⟨some 5, none, .mov (.c (.int .i64 0))⟩])
  (.block 0
  (.loop c1_pianolabook_Same_uint32)))
  (.seq (.ops [⟨some 4, none, .mov (.c (.bool true))⟩])
  (.ret)))
def c_pianolabook_Same_uint32 : C :=
 .seq (.ops [⟨some 4, none, .mov (.c (.bool false))⟩])
  (c2_pianolabook_Same_uint32)
def f_pianolabook_Same_uint32 : F := ⟨c_pianolabook_Same_uint32, [.t 4], some []⟩
theorem h_pianolabook_Same_uint32 : compF Try.prog (compAny Try.prog) n_pianolabook_Same_uint32 = some (f_pianolabook_Same_uint32.body, f_pianolabook_Same_uint32.res) := by kernel_rfl
/- slices.Sort[[]int,int] -/
def c_slices_Sort_int_int : C :=
 .seq (.ops [⟨some 3, none, .mov (.t 0)⟩,
  ⟨some 4, none, .len 1 (.t 3)⟩,
  ⟨some 2, none, .mov (.t 4)⟩])
  (.ops [⟨some 5, none, .mov (.t 0)⟩,
  ⟨some 6, none, .mov (.t 2)⟩,
  ⟨some 7, none, .mov (.t 2)⟩,
  ⟨some 8, none, .conv .u64 (.t 7)⟩,
  ⟨some 9, none, .call n_math_bits_Len [(.t 8)]⟩,
  ⟨some 10, none, .call n_slices_pdqsortOrdered_int [(.t 5), (.c (.int .i64 0)), (.t 6), (.t 9)]⟩])
def f_slices_Sort_int_int : F := ⟨c_slices_Sort_int_int, [], some []⟩
theorem h_slices_Sort_int_int : compF Try.prog (compAny Try.prog) n_slices_Sort_int_int = some (f_slices_Sort_int_int.body, f_slices_Sort_int_int.res) := by kernel_rfl
/- slices.Compact[[]int,int] -/
def c0_slices_Compact_int_int : C :=
 .seq (.ops [⟨some 45, none, .mov (.t 0)⟩,
  ⟨some 46, none, .mov (.t 3)⟩,
  ⟨some 47, none, .mov (.t 4)⟩,
  ⟨some 48, none, .mov (.t 5)⟩,
  ⟨some 49, none, .ia 1 (.t 47) (.t 48)⟩,
  ⟨some 50, none, .ld (.t 49)⟩,
  ⟨some 51, none, .ia 1 (.t 45) (.t 46)⟩,
  ⟨none, none, .st (.t 51) (.t 50)⟩])
  (.ops [⟨some 52, none, .mov (.t 3)⟩,
  ⟨some 53, none, .bin .add (.t 52) (.c (.int .i64 1))⟩,
  ⟨some 3, none, .mov (.t 53)⟩])
def c1_slices_Compact_int_int : C :=
 .seq (.block 3
  (.seq (.any 0 [.op 0 ⟨some 35, none, .mov (.t 4)⟩,
  .op 1 ⟨some 36, none, .mov (.t 5)⟩,
  .op 2 ⟨some 37, none, .ia 1 (.t 35) (.t 36)⟩,
  .op 3 ⟨some 38, none, .ld (.t 37)⟩,
  .op 4 ⟨some 39, none, .mov (.t 4)⟩,
  .op 5 ⟨some 40, none, .mov (.t 5)⟩,
  .op 6 ⟨some 41, none, .bin .sub (.t 40) (.c (.int .i64 1))⟩,
  .op 7 ⟨some 42, none, .ia 1 (.t 39) (.t 41)⟩,
  .op 8 ⟨some 43, none, .ld (.t 42)⟩,
  .op 9 ⟨some 44, none, .bin .neq (.t 38) (.t 43)⟩])
  (.cond (.t 44)
  (c0_slices_Compact_int_int)
  (.skip))))
  (.ops [⟨some 33, none, .mov (.t 5)⟩,
  ⟨some 34, none, .bin .add (.t 33) (.c (.int .i64 1))⟩,
  ⟨some 5, none, .mov (.t 34)⟩])
def c2_slices_Compact_int_int : C :=
 .seq (.seq (.ops [⟨some 29, none, .mov (.t 5)⟩,
  ⟨some 30, none, .mov (.t 4)⟩,
  ⟨some 31, none, .len 1 (.t 30)⟩,
  ⟨some 32, none, .bin .lss (.t 29) (.t 31)⟩])
  (.cond (.t 32)
  (.skip)
  (.exit 2)))
  (c1_slices_Compact_int_int)
def c3_slices_Compact_int_int : C :=
 .seq (.ops [⟨some 54, none, .mov (.t 0)⟩,
  ⟨some 55, none, .mov (.t 3)⟩,
  ⟨some 56, none, .sl 1 (.t 54) (some (.t 55)) none none⟩,
  ⟨none, none, .clr [(.int .i64 0)] (.t 56)⟩])
  (.seq (.ops [⟨some 57, none, .mov (.t 0)⟩,
  ⟨some 58, none, .mov (.t 3)⟩,
  ⟨some 59, none, .sl 1 (.t 57) none (some (.t 58)) none⟩,
  ⟨some 2, none, .mov (.t 59)⟩])
  (.ret))
def c4_slices_Compact_int_int : C :=
 .seq (.block 1
  (.seq (.any 0 [.op 0 ⟨some 16, none, .mov (.t 0)⟩,
  .op 1 ⟨some 17, none, .mov (.t 3)⟩,
  .op 2 ⟨some 18, none, .ia 1 (.t 16) (.t 17)⟩,
  .op 3 ⟨some 19, none, .ld (.t 18)⟩,
  .op 4 ⟨some 20, none, .mov (.t 0)⟩,
  .op 5 ⟨some 21, none, .mov (.t 3)⟩,
  .op 6 ⟨some 22, none, .bin .sub (.t 21) (.c (.int .i64 1))⟩,
  .op 7 ⟨some 23, none, .ia 1 (.t 20) (.t 22)⟩,
  .op 8 ⟨some 24, none, .ld (.t 23)⟩,
  .op 9 ⟨some 25, none, .bin .eql (.t 19) (.t 24)⟩])
  (.cond (.t 25)
  (.seq (.ops [⟨some 26, none, .mov (.t 0)⟩,
  ⟨some 27, none, .mov (.t 3)⟩,
  ⟨some 28, none, .sl 1 (.t 26) (some (.t 27)) none none⟩,
  ⟨some 4, none, .mov (.t 28)⟩])
  (.seq (.seq (.ops [⟨some 5, none, .mov (.c (.int .i64 1))⟩])
  (.block 2
  (.loop c2_slices_Compact_int_int)))
  (c3_slices_Compact_int_int)))
  (.skip))))
  (.ops [⟨some 14, none, .mov (.t 3)⟩,
  ⟨some 15, none, .bin .add (.t 14) (.c (.int .i64 1))⟩,
  ⟨some 3, none, .mov (.t 15)⟩])
def c5_slices_Compact_int_int : C :=
 .seq (.seq (.ops [⟨some 10, none, .mov (.t 3)⟩,
  ⟨some 11, none, .mov (.t 0)⟩,
  ⟨some 12, none, .len 1 (.t 11)⟩,
  ⟨some 13, none, .bin .lss (.t 10) (.t 12)⟩])
  (.cond (.t 13)
  (.skip)
  (.exit 0)))
  (c4_slices_Compact_int_int)
def c6_slices_Compact_int_int : C :=
 .seq (.seq (.ops [⟨some 6, none, .mov (.t 0)⟩,
  ⟨some 7, none, .len 1 (.t 6)⟩,
  ⟨some 8, none, .bin .lss (.t 7) (.c (.int .i64 2))⟩])
  (.cond (.t 8)
  (.seq (.ops [⟨some 9, none, .mov (.t 0)⟩,
  ⟨some 2, none, .mov (.t 9)⟩])
  (.ret))
  (.skip)))
  (.seq (.seq (.ops [⟨some 3, none, .mov (.c (.int .i64 1))⟩])
  (.block 0
  (.loop c5_slices_Compact_int_int)))
  (.seq (.ops [⟨some 60, none, .mov (.t 0)⟩,
  ⟨some 2, none, .mov (.t 60)⟩])
  (.ret)))
def c_slices_Compact_int_int : C :=
 .seq (.ops [⟨some 2, none, .mov (.c (.slice none 0 0))⟩])
  (c6_slices_Compact_int_int)
def f_slices_Compact_int_int : F := ⟨c_slices_Compact_int_int, [.t 2], some []⟩
theorem h_slices_Compact_int_int : compF Try.prog (compAny Try.prog) n_slices_Compact_int_int = some (f_slices_Compact_int_int.body, f_slices_Compact_int_int.res) := by kernel_rfl
/- pianola/pianolalaw20.leaves -/
def c0_pianolalaw20_leaves : C :=
 .seq (.block 1
  (.ops [⟨some 20, none, .mov (.t 6)⟩,
  ⟨some 21, none, .mov (.t 7)⟩,
  ⟨some 22, none, .mov (.t 0)⟩,
  ⟨some 23, none, .mov (.t 7)⟩,
  ⟨some 24, none, .ia 1 (.t 22) (.t 23)⟩,
  ⟨some 25, none, .ld (.t 24)⟩,
  ⟨some 26, none, .ia 1 (.t 20) (.t 21)⟩,
  ⟨none, none, .st (.t 26) (.t 25)⟩]))
  (.ops [⟨some 18, none, .mov (.t 7)⟩,
  ⟨some 19, none, .bin .add (.t 18) (.c (.int .i64 1))⟩,
  ⟨some 7, none, .mov (.t 19)⟩])
def c1_pianolalaw20_leaves : C :=
 .seq (.seq (.ops [⟨some 10, none, .mov (.t 7)⟩,
  ⟨some 11, none, .bin .lss (.t 10) (.c (.int .i64 40))⟩,
  ⟨some 12, none, .mov (.t 11)⟩,
  ⟨some 13, some (12, true), .mov (.t 7)⟩,
  ⟨some 14, some (12, true), .mov (.t 0)⟩,
  ⟨some 15, some (12, true), .len 1 (.t 14)⟩,
  ⟨some 16, some (12, true), .bin .lss (.t 13) (.t 15)⟩,
  ⟨some 17, none, .pick (.t 12) (.t 16) (.c (.bool false))⟩])
  (.cond (.t 17)
  (.skip)
  (.exit 0)))
  (c0_pianolalaw20_leaves)
def c2_pianolalaw20_leaves : C :=
 .seq (.ops [⟨some 27, none, .mov (.t 6)⟩,
  ⟨some 28, none, .mov (.t 1)⟩,
  ⟨some 29, none, .call n_pianolaref18_Run [(.t 27), (.t 28)]⟩,
  ⟨some 8, none, .mov (.t 29)⟩])
  (.seq (.ops [⟨some 30, none, .mov (.t 6)⟩,
  ⟨some 31, none, .sl 1 (.t 30) none (some (.c (.int .i64 34))) none⟩,
  ⟨some 32, none, .mov (.t 8)⟩,
  ⟨some 4, none, .mov (.t 31)⟩,
  ⟨some 5, none, .mov (.t 32)⟩])
  (.ret))
def c_pianolalaw20_leaves : C :=
 .seq (.ops [⟨some 4, none, .mov (.c (.slice none 0 0))⟩,
  ⟨some 5, none, .mov (.c (.bool false))⟩])
  (.seq (.ops [⟨some 9, none, .mks [(.int .u32 0)] 4 (.c (.int .i64 40)) (.c (.int .i64 40))⟩,
  ⟨some 6, none, .mov (.t 9)⟩])
  (.seq (.seq (.ops [⟨some 7, none, .mov (.c (.int .i64 1))⟩])
  (.block 0
  (.loop c1_pianolalaw20_leaves)))
  (c2_pianolalaw20_leaves)))
def f_pianolalaw20_leaves : F := ⟨c_pianolalaw20_leaves, [.t 4, .t 5], some []⟩
theorem h_pianolalaw20_leaves : compF Try.prog (compAny Try.prog) n_pianolalaw20_leaves = some (f_pianolalaw20_leaves.body, f_pianolalaw20_leaves.res) := by kernel_rfl
/- pianola/opt.right -/
def c0_opt_right : C :=
 .seq (.block 1
  (.seq (.ops [⟨some 9, none, .ia 5 (.t 5) (.t 7)⟩,
  ⟨some 10, none, .ldn 5 (.t 9)⟩,
  ⟨some 4, none, .new [(.int .i64 0), (.int .i64 0), (.int .i64 0), (.int .i64 0), (.int .u32 0)]⟩,
  ⟨none, none, .stn 5 (.t 4) (.t 10)⟩])
  (.seq (.ops [⟨some 11, none, .ldn 5 (.t 4)⟩,
  ⟨some 12, none, .call n_ir_Right [(.t 11)]⟩,
  ⟨some 13, none, .un .not (.t 12)⟩])
  (.cond (.t 13)
  (.seq (.ops [⟨some 2, none, .mov (.c (.bool false))⟩])
  (.ret))
  (.skip)))))
  (.ops [⟨some 14, none, .bin .add (.t 7) (.c (.int .i64 1))⟩,
  ⟨some 7, none, .mov (.t 14)⟩])
def c1_opt_right : C :=
 .seq (.ops [⟨some 8, none, .bin .lss (.t 7) (.t 6)⟩])
  (.seq (.cond (.t 8)
  (.skip)
  (.exit 0))
  (c0_opt_right))
def c_opt_right : C :=
 .seq (.ops [⟨some 2, none, .mov (.c (.bool false))⟩])
  (.seq (.seq (.ops [⟨some 5, none, .mov (.t 0)⟩,
  ⟨some 6, none, .len 1 (.t 5)⟩,
  ⟨some 7, none, .mov (.c (.int .i64 0))⟩])
  (.block 0
  (.loop c1_opt_right)))
  (.seq (.ops [⟨some 2, none, .mov (.c (.bool true))⟩])
  (.ret)))
def f_opt_right : F := ⟨c_opt_right, [.t 2], some []⟩
theorem h_opt_right : compF Try.prog (compAny Try.prog) n_opt_right = some (f_opt_right.body, f_opt_right.res) := by kernel_rfl
/- slices.ContainsFunc[[]int,int] -/
def c_slices_ContainsFunc_int_int : C :=
 .seq (.ops [⟨some 4, none, .mov (.c (.bool false))⟩])
  (.seq (.ops [⟨some 5, none, .mov (.t 0)⟩,
  ⟨some 6, none, .mov (.t 1)⟩,
  ⟨some 7, none, .call n_slices_IndexFunc_int_int [(.t 5), (.t 6)]⟩,
  ⟨some 8, none, .bin .geq (.t 7) (.c (.int .i64 0))⟩,
  ⟨some 4, none, .mov (.t 8)⟩])
  (.ret))
def f_slices_ContainsFunc_int_int : F := ⟨c_slices_ContainsFunc_int_int, [.t 4], some []⟩
theorem h_slices_ContainsFunc_int_int : compF Try.prog (compAny Try.prog) n_slices_ContainsFunc_int_int = some (f_slices_ContainsFunc_int_int.body, f_slices_ContainsFunc_int_int.res) := by kernel_rfl
/- pianola/opt.Dead$1 -/
def c_opt_Dead_1 : C :=
 .seq (.ops [⟨some 3, none, .mov (.c (.bool false))⟩])
  (.seq (.ops [⟨some 4, none, .mov (.t 0)⟩,
  ⟨some 5, none, .iaa 40 1 (.t 1) (.t 4)⟩,
  ⟨some 6, none, .ld (.t 5)⟩,
  ⟨some 3, none, .mov (.t 6)⟩])
  (.ret))
def f_opt_Dead_1 : F := ⟨c_opt_Dead_1, [.t 3], some []⟩
theorem h_opt_Dead_1 : compF Try.prog (compAny Try.prog) n_opt_Dead_1 = some (f_opt_Dead_1.body, f_opt_Dead_1.res) := by kernel_rfl
/- pianola/opt.sure -/
def c0_opt_sure : C :=
 .seq (.ops [⟨some 3, none, .fa 0 (.t 1)⟩,
  ⟨some 4, none, .ld (.t 3)⟩,
  ⟨some 5, none, .bin .neq (.t 4) (.c (.int .i64 21))⟩,
  ⟨some 6, none, .mov (.t 5)⟩,
  ⟨some 7, some (6, true), .fa 0 (.t 1)⟩,
  ⟨some 8, some (6, true), .ld (.t 7)⟩,
  ⟨some 9, some (6, true), .bin .neq (.t 8) (.c (.int .i64 22))⟩,
  ⟨some 10, none, .pick (.t 6) (.t 9) (.c (.bool false))⟩,
  ⟨some 2, none, .mov (.t 10)⟩])
  (.ret)
def c_opt_sure : C :=
 .seq (.ops [⟨some 1, none, .box (.t 0)⟩,
  ⟨some 2, none, .mov (.c (.bool false))⟩])
  (c0_opt_sure)
def f_opt_sure : F := ⟨c_opt_sure, [.t 2], some []⟩
theorem h_opt_sure : compF Try.prog (compAny Try.prog) n_opt_sure = some (f_opt_sure.body, f_opt_sure.res) := by kernel_rfl
/- slices.Reverse[[]pianola/ir.Op,pianola/ir.Op] -/
def c0_slices_Reverse_ir_Op_ir_Op : C :=
 .seq (.block 1
  (.any 0 [.op 4 ⟨some 18, none, .mov (.t 0)⟩,
  .op 5 ⟨some 19, none, .mov (.t 3)⟩,
  .op 6 ⟨some 20, none, .ia 5 (.t 18) (.t 19)⟩,
  .op 7 ⟨some 21, none, .ldn 5 (.t 20)⟩,
  .op 8 ⟨some 22, none, .mov (.t 0)⟩,
  .op 9 ⟨some 23, none, .mov (.t 2)⟩,
  .op 10 ⟨some 24, none, .ia 5 (.t 22) (.t 23)⟩,
  .op 11 ⟨some 25, none, .ldn 5 (.t 24)⟩,
  .op 0 ⟨some 14, none, .mov (.t 0)⟩,
  .op 1 ⟨some 15, none, .mov (.t 2)⟩,
  .op 12 ⟨some 26, none, .ia 5 (.t 14) (.t 15)⟩,
  .op 13 ⟨none, none, .stn 5 (.t 26) (.t 21)⟩,
  .op 2 ⟨some 16, none, .mov (.t 0)⟩,
  .op 3 ⟨some 17, none, .mov (.t 3)⟩,
  .op 14 ⟨some 27, none, .ia 5 (.t 16) (.t 17)⟩,
  .op 15 ⟨none, none, .stn 5 (.t 27) (.t 25)⟩]))
  (.ops [⟨some 10, none, .mov (.t 2)⟩,
  ⟨some 11, none, .bin .add (.t 10) (.c (.int .i64 1))⟩,
  ⟨some 12, none, .mov (.t 3)⟩,
  ⟨some 13, none, .bin .sub (.t 12) (.c (.int .i64 1))⟩,
  ⟨some 2, none, .mov (.t 11)⟩,
  ⟨some 3, none, .mov (.t 13)⟩])
def c1_slices_Reverse_ir_Op_ir_Op : C :=
 .seq (.seq (.ops [⟨some 7, none, .mov (.t 2)⟩,
  ⟨some 8, none, .mov (.t 3)⟩,
  ⟨some 9, none, .bin .lss (.t 7) (.t 8)⟩])
  (.cond (.t 9)
  (.skip)
  (.exit 0)))
  (c0_slices_Reverse_ir_Op_ir_Op)
def c_slices_Reverse_ir_Op_ir_Op : C :=
 .seq (.ops [⟨some 4, none, .mov (.t 0)⟩,
  ⟨some 5, none, .len 1 (.t 4)⟩,
  ⟨some 6, none, .bin .sub (.t 5) (.c (.int .i64 1))⟩,
  ⟨some 2, none, .mov (.c (.int .i64 0))⟩,
  ⟨some 3, none, .mov (.t 6)⟩])
  (.block 0
  (.loop c1_slices_Reverse_ir_Op_ir_Op))
def f_slices_Reverse_ir_Op_ir_Op : F := ⟨c_slices_Reverse_ir_Op_ir_Op, [], some []⟩
theorem h_slices_Reverse_ir_Op_ir_Op : compF Try.prog (compAny Try.prog) n_slices_Reverse_ir_Op_ir_Op = some (f_slices_Reverse_ir_Op_ir_Op.body, f_slices_Reverse_ir_Op_ir_Op.res) := by kernel_rfl
/- (*pianola/opt.facts).fold -/
def c0_opt_facts_fold : C :=
 .seq (.any 0 [.op 0 ⟨some 23, none, .fa 1 (.t 3)⟩,
  .op 1 ⟨some 24, none, .ld (.t 23)⟩,
  .op 2 ⟨some 25, none, .fa 2 (.t 3)⟩,
  .op 3 ⟨some 26, none, .ld (.t 25)⟩,
  .op 5 ⟨some 28, none, .mov (.t 0)⟩,
  .op 6 ⟨some 29, none, .fa 3 (.t 3)⟩,
  .op 7 ⟨some 30, none, .ld (.t 29)⟩,
  .op 8 ⟨some 31, none, .nilc (.t 28)⟩,
  .op 9 ⟨some 32, none, .fa 40 (.t 31)⟩,
  .op 10 ⟨some 33, none, .iaa 40 1 (.t 32) (.t 30)⟩,
  .op 11 ⟨some 34, none, .ld (.t 33)⟩,
  .op 13 ⟨some 36, none, .fa 0 (.t 3)⟩,
  .op 14 ⟨some 37, none, .ld (.t 36)⟩,
  .op 4 ⟨some 27, none, .build [(.int .i64 0), (.int .i64 0), (.int .i64 0), (.int .i64 0), (.int .u32 0)] [(0, 1, (.c (.int .i64 2))), (1, 1, (.t 24)), (2, 1, (.t 26))]⟩,
  .op 17 ⟨none, none, .stn 5 (.t 4) (.t 27)⟩,
  .re 7 ⟨some 30, none, .ld (.t 29)⟩,
  .re 11 ⟨some 34, none, .ld (.t 33)⟩,
  .re 14 ⟨some 37, none, .ld (.t 36)⟩,
  .op 12 ⟨some 35, none, .bin .eql (.t 34) (.c (.int .u32 0))⟩,
  .op 15 ⟨some 38, none, .bin .eql (.t 37) (.c (.int .i64 21))⟩,
  .op 16 ⟨some 39, none, .eqb false (.t 35) (.t 38)⟩,
  .op 18 ⟨some 5, none, .mov (.t 39)⟩])
  (.ret)
def c1_opt_facts_fold : C :=
 .seq (.ops [⟨some 41, none, .ldn 5 (.t 3)⟩,
  ⟨some 42, none, .call n_opt_sure [(.t 41)]⟩,
  ⟨some 43, none, .un .not (.t 42)⟩,
  ⟨some 44, none, .mov (.t 43)⟩,
  ⟨some 45, some (44, false), .mov (.t 6)⟩,
  ⟨some 46, some (44, false), .len 1 (.t 45)⟩,
  ⟨some 47, some (44, false), .bin .neq (.t 46) (.c (.int .i64 1))⟩,
  ⟨some 48, none, .pick (.t 44) (.c (.bool true)) (.t 47)⟩,
  ⟨some 49, none, .mov (.t 48)⟩,
  ⟨some 50, some (49, false), .mov (.t 0)⟩,
  ⟨some 51, some (49, false), .ldn 5 (.t 3)⟩,
  ⟨some 52, some (49, false), .call n_ir_Reads [(.t 51)]⟩,
  ⟨some 53, some (49, false), .call n_opt_facts_knows [(.t 50), (.t 52)]⟩,
  ⟨some 54, some (49, false), .un .not (.t 53)⟩,
  ⟨some 55, none, .pick (.t 49) (.c (.bool true)) (.t 54)⟩,
  ⟨some 40, none, .mov (.t 55)⟩])
  (.cond (.t 40)
  (.seq (.ops [⟨some 56, none, .ldn 5 (.t 3)⟩,
  ⟨none, none, .stn 5 (.t 4) (.t 56)⟩,
  ⟨some 5, none, .mov (.c (.bool true))⟩])
  (.ret))
  (.skip))
def c2_opt_facts_fold : C :=
 .seq (.any 0 [.op 0 ⟨some 64, none, .fa 1 (.t 3)⟩,
  .op 1 ⟨some 65, none, .ld (.t 64)⟩,
  .op 2 ⟨some 66, none, .fa 1 (.t 3)⟩,
  .op 3 ⟨some 67, none, .ld (.t 66)⟩,
  .op 4 ⟨some 68, none, .iaa 40 1 (.t 7) (.t 67)⟩,
  .op 5 ⟨some 69, none, .ld (.t 68)⟩,
  .op 6 ⟨some 70, none, .build [(.int .i64 0), (.int .i64 0), (.int .i64 0), (.int .i64 0), (.int .u32 0)] [(0, 1, (.c (.int .i64 1))), (1, 1, (.t 65)), (4, 1, (.t 69))]⟩,
  .op 7 ⟨none, none, .stn 5 (.t 4) (.t 70)⟩,
  .op 8 ⟨some 5, none, .mov (.c (.bool true))⟩])
  (.ret)
def c3_opt_facts_fold : C :=
 .seq (.ops [⟨some 57, none, .mov (.t 0)⟩,
  ⟨some 58, none, .nilc (.t 57)⟩,
  ⟨some 59, none, .fa 40 (.t 58)⟩,
  ⟨some 60, none, .ldn 40 (.t 59)⟩,
  ⟨some 7, none, .new (List.replicate 40 (.int .u32 0))⟩,
  ⟨none, none, .stn 40 (.t 7) (.t 60)⟩])
  (.seq (.ops [⟨some 61, none, .ldn 5 (.t 3)⟩,
  ⟨some 62, none, .bsl 1 [(.int .i64 0), (.int .i64 0), (.int .i64 0), (.int .i64 0), (.int .u32 0)] [(0, 5, (.t 61))]⟩,
  ⟨some 63, none, .call n_ir_Run [(.t 7), (.t 62)]⟩])
  (c2_opt_facts_fold))
def c4_opt_facts_fold : C :=
 .seq (.block 0
  (.seq (.any 0 [.op 0 ⟨some 11, none, .ldn 5 (.t 3)⟩,
  .op 1 ⟨some 12, none, .call n_opt_sure [(.t 11)]⟩,
  .op 2 ⟨some 13, none, .un .not (.t 12)⟩,
  .op 3 ⟨some 14, none, .mov (.t 13)⟩,
  .op 4 ⟨some 15, some (14, true), .mov (.t 0)⟩,
  .op 5 ⟨some 16, some (14, true), .fa 3 (.t 3)⟩,
  .op 6 ⟨some 17, some (14, true), .ld (.t 16)⟩,
  .op 7 ⟨some 18, some (14, true), .nilc (.t 15)⟩,
  .op 8 ⟨some 19, some (14, true), .fa 0 (.t 18)⟩,
  .op 9 ⟨some 20, some (14, true), .iaa 40 1 (.t 19) (.t 17)⟩,
  .op 10 ⟨some 21, some (14, true), .ld (.t 20)⟩,
  .op 11 ⟨some 22, none, .pick (.t 14) (.t 21) (.c (.bool false))⟩,
  .op 12 ⟨some 10, none, .mov (.t 22)⟩])
  (.cond (.t 10)
  (c0_opt_facts_fold)
  (c1_opt_facts_fold))))
  (c3_opt_facts_fold)
def c_opt_facts_fold : C :=
 .seq (.ops [⟨some 3, none, .box (.t 1)⟩,
  ⟨some 4, none, .new [(.int .i64 0), (.int .i64 0), (.int .i64 0), (.int .i64 0), (.int .u32 0)]⟩,
  ⟨some 5, none, .mov (.c (.bool false))⟩])
  (.seq (.ops [⟨some 8, none, .ldn 5 (.t 3)⟩,
  ⟨some 9, none, .call n_ir_Writes [(.t 8)]⟩,
  ⟨some 6, none, .mov (.t 9)⟩])
  (c4_opt_facts_fold))
def f_opt_facts_fold : F := ⟨c_opt_facts_fold, [.ldn 5 4, .t 5], some []⟩
theorem h_opt_facts_fold : compF Try.prog (compAny Try.prog) n_opt_facts_fold = some (f_opt_facts_fold.body, f_opt_facts_fold.res) := by kernel_rfl
/- (*pianola/opt.facts).done -/
def c0_opt_facts_done : C :=
 .any 1 [.op 3 ⟨some 15, none, .ldn 5 (.t 3)⟩,
  .op 0 ⟨some 12, none, .mov (.t 0)⟩,
  .op 1 ⟨some 13, none, .nilc (.t 12)⟩,
  .op 2 ⟨some 14, none, .fa 40 (.t 13)⟩,
  .al 4 0 ⟨some 16, none, .bsl 1 [(.int .i64 0), (.int .i64 0), (.int .i64 0), (.int .i64 0), (.int .u32 0)] [(0, 5, (.t 15))]⟩,
  .op 5 ⟨some 17, none, .call n_ir_Run [(.t 14), (.t 16)]⟩]
def c1_opt_facts_done : C :=
 .seq (.block 1
  (.seq (.ops [⟨some 23, none, .ia 1 (.t 19) (.t 21)⟩,
  ⟨some 24, none, .ld (.t 23)⟩,
  ⟨some 6, none, .mov (.t 24)⟩])
  (.ops [⟨some 25, none, .mov (.t 0)⟩,
  ⟨some 26, none, .mov (.t 6)⟩,
  ⟨some 27, none, .mov (.t 4)⟩,
  ⟨some 28, none, .nilc (.t 25)⟩,
  ⟨some 29, none, .fa 0 (.t 28)⟩,
  ⟨some 30, none, .iaa 40 1 (.t 29) (.t 26)⟩,
  ⟨none, none, .st (.t 30) (.t 27)⟩])))
  (.ops [⟨some 31, none, .bin .add (.t 21) (.c (.int .i64 1))⟩,
  ⟨some 21, none, .mov (.t 31)⟩])
def c2_opt_facts_done : C :=
 .seq (.ops [⟨some 22, none, .bin .lss (.t 21) (.t 20)⟩])
  (.seq (.cond (.t 22)
  (.skip)
  (.exit 0))
  (c1_opt_facts_done))
def c3_opt_facts_done : C :=
 .seq (.ops [⟨some 7, none, .mov (.t 0)⟩,
  ⟨some 8, none, .ldn 5 (.t 3)⟩,
  ⟨some 9, none, .call n_ir_Reads [(.t 8)]⟩,
  ⟨some 10, none, .call n_opt_facts_knows [(.t 7), (.t 9)]⟩,
  ⟨some 4, none, .mov (.t 10)⟩])
  (.seq (.seq (.ops [⟨some 11, none, .mov (.t 4)⟩])
  (.cond (.t 11)
  (c0_opt_facts_done)
  (.skip)))
  (.seq (.ops [⟨some 18, none, .ldn 5 (.t 3)⟩,
  ⟨some 19, none, .call n_ir_Writes [(.t 18)]⟩,
  ⟨some 20, none, .len 1 (.t 19)⟩,
  ⟨some 21, none, .mov (.c (.int .i64 0))⟩])
  (.block 0
  (.loop c2_opt_facts_done))))
def c_opt_facts_done : C :=
 .seq (.ops [⟨some 3, none, .box (.t 1)⟩])
  (c3_opt_facts_done)
def f_opt_facts_done : F := ⟨c_opt_facts_done, [], some []⟩
theorem h_opt_facts_done : compF Try.prog (compAny Try.prog) n_opt_facts_done = some (f_opt_facts_done.body, f_opt_facts_done.res) := by kernel_rfl
/- pianola/pianolalaw20.cell -/
def c0_pianolalaw20_cell : C :=
 .seq (.ops [⟨some 3, none, .bsl 10 (List.replicate 10 (.int .i64 0)) [(0, 1, (.c (.int .i64 0))), (1, 1, (.c (.int .i64 1))), (2, 1, (.c (.int .i64 2))), (3, 1, (.c (.int .i64 3))), (4, 1, (.c (.int .i64 4))), (5, 1, (.c (.int .i64 32))), (6, 1, (.c (.int .i64 33))), (7, 1, (.c (.int .i64 34))), (8, 1, (.c (.int .i64 35))), (9, 1, (.c (.int .i64 36)))]⟩,
  ⟨some 4, none, .mov (.t 0)⟩,
  ⟨some 5, none, .call n_pianolabook_Within [(.t 4), (.c (.int .i64 0)), (.c (.int .i64 1048576))]⟩,
  ⟨some 6, none, .bin .rem (.t 5) (.c (.int .i64 10))⟩,
  ⟨some 7, none, .ia 1 (.t 3) (.t 6)⟩,
  ⟨some 8, none, .ld (.t 7)⟩,
  ⟨some 2, none, .mov (.t 8)⟩])
  (.ret)
def c_pianolalaw20_cell : C :=
 .seq (.ops [⟨some 2, none, .mov (.c (.int .i64 0))⟩])
  (c0_pianolalaw20_cell)
def f_pianolalaw20_cell : F := ⟨c_pianolalaw20_cell, [.t 2], some []⟩
theorem h_pianolalaw20_cell : compF Try.prog (compAny Try.prog) n_pianolalaw20_cell = some (f_pianolalaw20_cell.body, f_pianolalaw20_cell.res) := by kernel_rfl
end Go.Proofs.Ytjobkhnanbkcjaa.Cd

/- The code of the functions that are reached, as the interpreter reads it. -/
set_option maxRecDepth 100000
set_option linter.defProp false
namespace Go.Proofs.Ytjobkhnanbkcjaa.Cd
open Go Go.Dx
/- slices.IndexFunc[[]pianola/ir.Op,pianola/ir.Op] -/
def c0_slices_IndexFunc_ir_Op_ir_Op : C :=
 .seq (.ops [⟨some 11, none, .mov (.t 1)⟩,
  ⟨some 12, none, .mov (.t 0)⟩,
  ⟨some 13, none, .mov (.t 5)⟩,
  ⟨some 14, none, .ia 5 (.t 12) (.t 13)⟩,
  ⟨some 15, none, .ldn 5 (.t 14)⟩,
  ⟨some 16, none, .callv (.t 11) [(.t 15)]⟩])
  (.cond (.t 16)
  (.seq (.ops [⟨some 17, none, .mov (.t 5)⟩,
  ⟨some 4, none, .mov (.t 17)⟩])
  (.ret))
  (.skip))
def c1_slices_IndexFunc_ir_Op_ir_Op : C :=
 .seq (.ops [⟨some 9, none, .bin .lss (.t 8) (.t 7)⟩])
  (.seq (.cond (.t 9)
  (.skip)
  (.exit 0))
  (.seq (.block 1
  (.seq (.ops [⟨some 10, none, .mov (.t 8)⟩,
  ⟨some 5, none, .mov (.t 10)⟩])
  (c0_slices_IndexFunc_ir_Op_ir_Op)))
  (.ops [⟨some 18, none, .bin .add (.t 8) (.c (.int .i64 1))⟩,
  ⟨some 8, none, .mov (.t 18)⟩])))
def c_slices_IndexFunc_ir_Op_ir_Op : C :=
 .seq (.ops [⟨some 4, none, .mov (.c (.int .i64 0))⟩])
  (.seq (.seq (.ops [⟨some 6, none, .mov (.t 0)⟩,
  ⟨some 7, none, .len 1 (.t 6)⟩,
  ⟨some 8, none, .mov (.c (.int .i64 0))⟩])
  (.block 0
  (.loop c1_slices_IndexFunc_ir_Op_ir_Op)))
  (.seq (.ops [⟨some 4, none, .mov (.c (.int .i64 (-1)))⟩])
  (.ret)))
def f_slices_IndexFunc_ir_Op_ir_Op : F := ⟨c_slices_IndexFunc_ir_Op_ir_Op, [.t 4], some []⟩
theorem h_slices_IndexFunc_ir_Op_ir_Op : compF Try.prog (compAny Try.prog) n_slices_IndexFunc_ir_Op_ir_Op = some (f_slices_IndexFunc_ir_Op_ir_Op.body, f_slices_IndexFunc_ir_Op_ir_Op.res) := by kernel_rfl
/- pianola/word.Mul -/
def c0_word_Mul : C :=
 .ops [⟨some 15, none, .mov (.t 0)⟩,
  ⟨some 16, none, .conv .i32 (.t 15)⟩,
  ⟨some 17, none, .conv .i64 (.t 16)⟩,
  ⟨some 18, none, .mov (.t 1)⟩,
  ⟨some 19, none, .conv .i32 (.t 18)⟩,
  ⟨some 20, none, .conv .i64 (.t 19)⟩,
  ⟨some 21, none, .bin .mul (.t 17) (.t 20)⟩,
  ⟨some 22, none, .conv .u64 (.t 21)⟩,
  ⟨some 8, none, .mov (.t 22)⟩]
def c1_word_Mul : C :=
 .seq (.seq (.ops [⟨some 14, none, .mov (.t 2)⟩])
  (.cond (.t 14)
  (c0_word_Mul)
  (.skip)))
  (.seq (.ops [⟨some 23, none, .mov (.t 8)⟩,
  ⟨some 24, none, .bin .shr (.t 23) (.c (.int .u64 32))⟩,
  ⟨some 25, none, .conv .u32 (.t 24)⟩,
  ⟨some 26, none, .mov (.t 8)⟩,
  ⟨some 27, none, .conv .u32 (.t 26)⟩,
  ⟨some 6, none, .mov (.t 25)⟩,
  ⟨some 7, none, .mov (.t 27)⟩])
  (.ret))
def c_word_Mul : C :=
 .seq (.ops [⟨some 6, none, .mov (.c (.int .u32 0))⟩,
  ⟨some 7, none, .mov (.c (.int .u32 0))⟩])
  (.seq (.ops [⟨some 9, none, .mov (.t 0)⟩,
  ⟨some 10, none, .conv .u64 (.t 9)⟩,
  ⟨some 11, none, .mov (.t 1)⟩,
  ⟨some 12, none, .conv .u64 (.t 11)⟩,
  ⟨some 13, none, .bin .mul (.t 10) (.t 12)⟩,
  ⟨some 8, none, .mov (.t 13)⟩])
  (c1_word_Mul))
def f_word_Mul : F := ⟨c_word_Mul, [.t 6, .t 7], some []⟩
theorem h_word_Mul : compF Try.prog (compAny Try.prog) n_word_Mul = some (f_word_Mul.body, f_word_Mul.res) := by kernel_rfl
/- pianola/word.Div -/
def c0_word_Div : C :=
 .seq (.any 0 [.op 0 ⟨some 17, none, .mov (.t 0)⟩,
  .op 1 ⟨some 18, none, .mov (.t 1)⟩,
  .op 2 ⟨some 19, none, .bin .quo (.t 17) (.t 18)⟩,
  .op 3 ⟨some 20, none, .mov (.t 0)⟩,
  .op 4 ⟨some 21, none, .mov (.t 1)⟩,
  .op 5 ⟨some 22, none, .bin .rem (.t 20) (.t 21)⟩,
  .op 6 ⟨some 6, none, .mov (.t 19)⟩,
  .op 7 ⟨some 7, none, .mov (.t 22)⟩])
  (.ret)
def c1_word_Div : C :=
 .seq (.any 0 [.op 0 ⟨some 29, none, .mov (.t 8)⟩,
  .op 1 ⟨some 30, none, .mov (.t 9)⟩,
  .op 2 ⟨some 31, none, .bin .quo (.t 29) (.t 30)⟩,
  .op 3 ⟨some 32, none, .conv .u32 (.t 31)⟩,
  .op 4 ⟨some 33, none, .mov (.t 8)⟩,
  .op 5 ⟨some 34, none, .mov (.t 9)⟩,
  .op 6 ⟨some 35, none, .bin .rem (.t 33) (.t 34)⟩,
  .op 7 ⟨some 36, none, .conv .u32 (.t 35)⟩,
  .op 8 ⟨some 6, none, .mov (.t 32)⟩,
  .op 9 ⟨some 7, none, .mov (.t 36)⟩])
  (.ret)
def c2_word_Div : C :=
 .seq (.block 0
  (.seq (.ops [⟨some 11, none, .mov (.t 1)⟩,
  ⟨some 12, none, .bin .eql (.t 11) (.c (.int .u32 0))⟩,
  ⟨some 10, none, .mov (.t 12)⟩])
  (.cond (.t 10)
  (.seq (.ops [⟨some 13, none, .mov (.t 0)⟩,
  ⟨some 6, none, .mov (.c (.int .u32 4294967295))⟩,
  ⟨some 7, none, .mov (.t 13)⟩])
  (.ret))
  (.seq (.ops [⟨some 15, none, .mov (.t 2)⟩,
  ⟨some 16, none, .un .not (.t 15)⟩,
  ⟨some 14, none, .mov (.t 16)⟩])
  (.cond (.t 14)
  (c0_word_Div)
  (.skip))))))
  (.seq (.ops [⟨some 23, none, .mov (.t 0)⟩,
  ⟨some 24, none, .conv .i32 (.t 23)⟩,
  ⟨some 25, none, .conv .i64 (.t 24)⟩,
  ⟨some 26, none, .mov (.t 1)⟩,
  ⟨some 27, none, .conv .i32 (.t 26)⟩,
  ⟨some 28, none, .conv .i64 (.t 27)⟩,
  ⟨some 8, none, .mov (.t 25)⟩,
  ⟨some 9, none, .mov (.t 28)⟩])
  (c1_word_Div))
def c_word_Div : C :=
 .seq (.ops [⟨some 6, none, .mov (.c (.int .u32 0))⟩,
  ⟨some 7, none, .mov (.c (.int .u32 0))⟩])
  (c2_word_Div)
def f_word_Div : F := ⟨c_word_Div, [.t 6, .t 7], some []⟩
theorem h_word_Div : compF Try.prog (compAny Try.prog) n_word_Div = some (f_word_Div.body, f_word_Div.res) := by kernel_rfl
/- pianola/ir.of -/
def c0_ir_of : C :=
 .seq (.ops [⟨some 66, none, .mov (.t 1)⟩,
  ⟨some 67, none, .mov (.t 2)⟩,
  ⟨some 68, none, .fa 0 (.t 3)⟩,
  ⟨some 69, none, .ld (.t 68)⟩,
  ⟨some 70, none, .bin .eql (.t 69) (.c (.int .i64 12))⟩,
  ⟨some 71, none, .call n_word_Less [(.t 66), (.t 67), (.t 70)]⟩,
  ⟨some 72, none, .call n_ir_one [(.t 71)]⟩,
  ⟨some 6, none, .mov (.t 72)⟩])
  (.ret)
def c1_ir_of : C :=
 .cond (.t 78)
  (.seq (.ops [⟨some 80, none, .mov (.t 1)⟩,
  ⟨some 81, none, .call n_word_Clz [(.t 80)]⟩,
  ⟨some 82, none, .conv .u32 (.t 81)⟩,
  ⟨some 6, none, .mov (.t 82)⟩])
  (.ret))
  (.seq (.ops [⟨some 84, none, .bin .eql (.t 8) (.c (.int .i64 16))⟩,
  ⟨some 83, none, .mov (.t 84)⟩])
  (.cond (.t 83)
  (.seq (.ops [⟨some 85, none, .mov (.t 1)⟩,
  ⟨some 86, none, .call n_word_Clo [(.t 85)]⟩,
  ⟨some 87, none, .conv .u32 (.t 86)⟩,
  ⟨some 6, none, .mov (.t 87)⟩])
  (.ret))
  (.skip)))
def c2_ir_of : C :=
 .seq (.ops [⟨some 74, none, .bin .eql (.t 8) (.c (.int .i64 14))⟩,
  ⟨some 73, none, .mov (.t 74)⟩])
  (.cond (.t 73)
  (.seq (.ops [⟨some 75, none, .mov (.t 1)⟩,
  ⟨some 76, none, .mov (.t 2)⟩,
  ⟨some 77, none, .bin .mul (.t 75) (.t 76)⟩,
  ⟨some 6, none, .mov (.t 77)⟩])
  (.ret))
  (.seq (.ops [⟨some 79, none, .bin .eql (.t 8) (.c (.int .i64 15))⟩,
  ⟨some 78, none, .mov (.t 79)⟩])
  (c1_ir_of)))
def c3_ir_of : C :=
 .cond (.t 56)
  (.seq (.ops [⟨some 58, none, .mov (.t 1)⟩,
  ⟨some 59, none, .mov (.t 2)⟩,
  ⟨some 60, none, .bin .and (.t 59) (.c (.int .u32 31))⟩,
  ⟨some 61, none, .conv .i64 (.t 60)⟩,
  ⟨some 62, none, .call n_word_Sar [(.t 58), (.t 61)]⟩,
  ⟨some 6, none, .mov (.t 62)⟩])
  (.ret))
  (.seq (.seq (.ops [⟨some 64, none, .bin .eql (.t 8) (.c (.int .i64 12))⟩,
  ⟨some 63, none, .mov (.t 64)⟩])
  (.cond (.t 63)
  (.skip)
  (.ops [⟨some 65, none, .bin .eql (.t 8) (.c (.int .i64 13))⟩,
  ⟨some 63, none, .mov (.t 65)⟩])))
  (.cond (.t 63)
  (c0_ir_of)
  (c2_ir_of)))
def c4_ir_of : C :=
 .cond (.t 50)
  (.seq (.ops [⟨some 52, none, .mov (.t 1)⟩,
  ⟨some 53, none, .mov (.t 2)⟩,
  ⟨some 54, none, .bin .and (.t 53) (.c (.int .u32 31))⟩,
  ⟨some 55, none, .bin .shr (.t 52) (.t 54)⟩,
  ⟨some 6, none, .mov (.t 55)⟩])
  (.ret))
  (.seq (.ops [⟨some 57, none, .bin .eql (.t 8) (.c (.int .i64 11))⟩,
  ⟨some 56, none, .mov (.t 57)⟩])
  (c3_ir_of))
def c5_ir_of : C :=
 .cond (.t 44)
  (.seq (.ops [⟨some 46, none, .mov (.t 1)⟩,
  ⟨some 47, none, .mov (.t 2)⟩,
  ⟨some 48, none, .bin .and (.t 47) (.c (.int .u32 31))⟩,
  ⟨some 49, none, .bin .shl (.t 46) (.t 48)⟩,
  ⟨some 6, none, .mov (.t 49)⟩])
  (.ret))
  (.seq (.ops [⟨some 51, none, .bin .eql (.t 8) (.c (.int .i64 10))⟩,
  ⟨some 50, none, .mov (.t 51)⟩])
  (c4_ir_of))
def c6_ir_of : C :=
 .cond (.t 38)
  (.seq (.ops [⟨some 40, none, .mov (.t 1)⟩,
  ⟨some 41, none, .mov (.t 2)⟩,
  ⟨some 42, none, .bin .or (.t 40) (.t 41)⟩,
  ⟨some 43, none, .un .xor (.t 42)⟩,
  ⟨some 6, none, .mov (.t 43)⟩])
  (.ret))
  (.seq (.ops [⟨some 45, none, .bin .eql (.t 8) (.c (.int .i64 9))⟩,
  ⟨some 44, none, .mov (.t 45)⟩])
  (c5_ir_of))
def c7_ir_of : C :=
 .seq (.ops [⟨some 34, none, .bin .eql (.t 8) (.c (.int .i64 7))⟩,
  ⟨some 33, none, .mov (.t 34)⟩])
  (.cond (.t 33)
  (.seq (.ops [⟨some 35, none, .mov (.t 1)⟩,
  ⟨some 36, none, .mov (.t 2)⟩,
  ⟨some 37, none, .bin .xor (.t 35) (.t 36)⟩,
  ⟨some 6, none, .mov (.t 37)⟩])
  (.ret))
  (.seq (.ops [⟨some 39, none, .bin .eql (.t 8) (.c (.int .i64 8))⟩,
  ⟨some 38, none, .mov (.t 39)⟩])
  (c6_ir_of)))
def c8_ir_of : C :=
 .cond (.t 23)
  (.seq (.ops [⟨some 25, none, .mov (.t 1)⟩,
  ⟨some 26, none, .mov (.t 2)⟩,
  ⟨some 27, none, .bin .and (.t 25) (.t 26)⟩,
  ⟨some 6, none, .mov (.t 27)⟩])
  (.ret))
  (.seq (.ops [⟨some 29, none, .bin .eql (.t 8) (.c (.int .i64 6))⟩,
  ⟨some 28, none, .mov (.t 29)⟩])
  (.cond (.t 28)
  (.seq (.ops [⟨some 30, none, .mov (.t 1)⟩,
  ⟨some 31, none, .mov (.t 2)⟩,
  ⟨some 32, none, .bin .or (.t 30) (.t 31)⟩,
  ⟨some 6, none, .mov (.t 32)⟩])
  (.ret))
  (c7_ir_of)))
def c9_ir_of : C :=
 .seq (.ops [⟨some 19, none, .bin .eql (.t 8) (.c (.int .i64 4))⟩,
  ⟨some 18, none, .mov (.t 19)⟩])
  (.cond (.t 18)
  (.seq (.ops [⟨some 20, none, .mov (.t 1)⟩,
  ⟨some 21, none, .mov (.t 2)⟩,
  ⟨some 22, none, .bin .sub (.t 20) (.t 21)⟩,
  ⟨some 6, none, .mov (.t 22)⟩])
  (.ret))
  (.seq (.ops [⟨some 24, none, .bin .eql (.t 8) (.c (.int .i64 5))⟩,
  ⟨some 23, none, .mov (.t 24)⟩])
  (c8_ir_of)))
def c10_ir_of : C :=
 .cond (.t 9)
  (.seq (.ops [⟨some 11, none, .fa 4 (.t 3)⟩,
  ⟨some 12, none, .ld (.t 11)⟩,
  ⟨some 6, none, .mov (.t 12)⟩])
  (.ret))
  (.seq (.ops [⟨some 14, none, .bin .eql (.t 8) (.c (.int .i64 3))⟩,
  ⟨some 13, none, .mov (.t 14)⟩])
  (.cond (.t 13)
  (.seq (.ops [⟨some 15, none, .mov (.t 1)⟩,
  ⟨some 16, none, .mov (.t 2)⟩,
  ⟨some 17, none, .bin .add (.t 15) (.t 16)⟩,
  ⟨some 6, none, .mov (.t 17)⟩])
  (.ret))
  (c9_ir_of)))
def c_ir_of : C :=
 .seq (.ops [⟨some 3, none, .box (.t 0)⟩,
  ⟨some 6, none, .mov (.c (.int .u32 0))⟩])
  (.seq (.seq (.ops [⟨some 7, none, .fa 0 (.t 3)⟩,
  ⟨some 8, none, .ld (.t 7)⟩])
  (.block 0
  (.seq (.ops [⟨some 10, none, .bin .eql (.t 8) (.c (.int .i64 1))⟩,
  ⟨some 9, none, .mov (.t 10)⟩])
  (c10_ir_of))))
  (.seq (.ops [⟨some 88, none, .mov (.t 1)⟩,
  ⟨some 6, none, .mov (.t 88)⟩])
  (.ret)))
def f_ir_of : F := ⟨c_ir_of, [.t 6], some []⟩
theorem h_ir_of : compF Try.prog (compAny Try.prog) n_ir_of = some (f_ir_of.body, f_ir_of.res) := by kernel_rfl
/- pianola/pianolaref18.sorted -/
def c0_pianolaref18_sorted : C :=
 .seq (.block 3
  (.ops [⟨some 17, none, .mov (.t 5)⟩,
  ⟨some 18, none, .mov (.t 17)⟩,
  ⟨some 19, some (18, false), .mov (.t 0)⟩,
  ⟨some 20, some (18, false), .mov (.t 6)⟩,
  ⟨some 21, some (18, false), .ia 1 (.t 19) (.t 20)⟩,
  ⟨some 22, some (18, false), .ld (.t 21)⟩,
  ⟨some 23, some (18, false), .mov (.t 4)⟩,
  ⟨some 24, some (18, false), .bin .eql (.t 22) (.t 23)⟩,
  ⟨some 25, none, .pick (.t 18) (.c (.bool true)) (.t 24)⟩,
  ⟨some 5, none, .mov (.t 25)⟩]))
  (.ops [⟨some 15, none, .mov (.t 6)⟩,
  ⟨some 16, none, .bin .add (.t 15) (.c (.int .i64 1))⟩,
  ⟨some 6, none, .mov (.t 16)⟩])
def c1_pianolaref18_sorted : C :=
 .seq (.seq (.ops [⟨some 11, none, .mov (.t 6)⟩,
  ⟨some 12, none, .mov (.t 0)⟩,
  ⟨some 13, none, .len 1 (.t 12)⟩,
  ⟨some 14, none, .bin .lss (.t 11) (.t 13)⟩])
  (.cond (.t 14)
  (.skip)
  (.exit 2)))
  (c0_pianolaref18_sorted)
def c2_pianolaref18_sorted : C :=
 .seq (.seq (.ops [⟨some 6, none, .mov (.c (.int .i64 0))⟩])
  (.block 2
  (.loop c1_pianolaref18_sorted)))
  (.seq (.ops [⟨some 26, none, .mov (.t 5)⟩])
  (.cond (.t 26)
  (.ops [⟨some 27, none, .mov (.t 3)⟩,
  ⟨some 28, none, .mov (.t 4)⟩,
  ⟨some 29, none, .bsl 1 [(.int .i64 0)] [(0, 1, (.t 28))]⟩,
  ⟨some 30, none, .app 1 8 (.t 27) (.t 29)⟩,
  ⟨some 3, none, .mov (.t 30)⟩])
  (.skip)))
def c3_pianolaref18_sorted : C :=
 .seq (.seq (.ops [⟨some 7, none, .mov (.t 4)⟩,
  ⟨some 8, none, .bin .lss (.t 7) (.c (.int .i64 40))⟩])
  (.cond (.t 8)
  (.skip)
  (.exit 0)))
  (.seq (.block 1
  (.seq (.ops [⟨some 5, none, .mov (.c (.bool false))⟩])
  (c2_pianolaref18_sorted)))
  (.ops [⟨some 9, none, .mov (.t 4)⟩,
  ⟨some 10, none, .bin .add (.t 9) (.c (.int .i64 1))⟩,
  ⟨some 4, none, .mov (.t 10)⟩]))
def c_pianolaref18_sorted : C :=
 .seq (.ops [⟨some 2, none, .mov (.c (.slice none 0 0))⟩])
  (.seq (.ops [⟨some 3, none, .mov (.c (.slice none 0 0))⟩])
  (.seq (.seq (.ops [⟨some 4, none, .mov (.c (.int .i64 0))⟩])
  (.block 0
  (.loop c3_pianolaref18_sorted)))
  (.seq (.ops [⟨some 31, none, .mov (.t 3)⟩,
  ⟨some 2, none, .mov (.t 31)⟩])
  (.ret))))
def f_pianolaref18_sorted : F := ⟨c_pianolaref18_sorted, [.t 2], some []⟩
theorem h_pianolaref18_sorted : compF Try.prog (compAny Try.prog) n_pianolaref18_sorted = some (f_pianolaref18_sorted.body, f_pianolaref18_sorted.res) := by kernel_rfl
/- pianola/pianolaref18.One -/
def c0_pianolaref18_One : C :=
 .ops [⟨some 81, none, .mov (.t 4)⟩,
  ⟨some 82, none, .mov (.t 5)⟩,
  ⟨some 83, none, .fa 0 (.t 3)⟩,
  ⟨some 84, none, .ld (.t 83)⟩,
  ⟨some 85, none, .bin .eql (.t 84) (.c (.int .i64 12))⟩,
  ⟨some 86, none, .call n_pianolaref1_Less [(.t 81), (.t 82), (.t 85)]⟩,
  ⟨some 87, none, .call n_pianolaref18_bit [(.t 86)]⟩,
  ⟨some 6, none, .mov (.t 87)⟩]
def c1_pianolaref18_One : C :=
 .seq (.ops [⟨some 110, none, .mov (.t 0)⟩,
  ⟨some 111, none, .mov (.t 0)⟩,
  ⟨some 112, none, .mov (.t 4)⟩,
  ⟨some 113, none, .mov (.t 5)⟩,
  ⟨some 114, none, .fa 0 (.t 3)⟩,
  ⟨some 115, none, .ld (.t 114)⟩,
  ⟨some 116, none, .bin .eql (.t 115) (.c (.int .i64 17))⟩,
  ⟨some 117, none, .call n_pianolaref1_Mul [(.t 112), (.t 113), (.t 116)]⟩,
  ⟨some 109, none, .mov (.t 117)⟩,
  ⟨some 118, none, .ext (.t 109) 0⟩,
  ⟨some 119, none, .ext (.t 109) 1⟩,
  ⟨some 120, none, .ia 1 (.t 110) (.c (.int .i64 32))⟩,
  ⟨none, none, .st (.t 120) (.t 118)⟩,
  ⟨some 121, none, .ia 1 (.t 111) (.c (.int .i64 33))⟩,
  ⟨none, none, .st (.t 121) (.t 119)⟩])
  (.ret)
def c2_pianolaref18_One : C :=
 .seq (.ops [⟨some 126, none, .mov (.t 0)⟩,
  ⟨some 127, none, .mov (.t 0)⟩,
  ⟨some 128, none, .mov (.t 4)⟩,
  ⟨some 129, none, .mov (.t 5)⟩,
  ⟨some 130, none, .fa 0 (.t 3)⟩,
  ⟨some 131, none, .ld (.t 130)⟩,
  ⟨some 132, none, .bin .eql (.t 131) (.c (.int .i64 19))⟩,
  ⟨some 133, none, .call n_pianolaref1_Div [(.t 128), (.t 129), (.t 132)]⟩,
  ⟨some 125, none, .mov (.t 133)⟩,
  ⟨some 134, none, .ext (.t 125) 0⟩,
  ⟨some 135, none, .ext (.t 125) 1⟩,
  ⟨some 136, none, .ia 1 (.t 126) (.c (.int .i64 33))⟩,
  ⟨none, none, .st (.t 136) (.t 134)⟩,
  ⟨some 137, none, .ia 1 (.t 127) (.c (.int .i64 32))⟩,
  ⟨none, none, .st (.t 137) (.t 135)⟩])
  (.ret)
def c3_pianolaref18_One : C :=
 .seq (.seq (.ops [⟨some 141, none, .mov (.t 5)⟩,
  ⟨some 142, none, .bin .eql (.t 141) (.c (.int .u32 0))⟩,
  ⟨some 143, none, .fa 0 (.t 3)⟩,
  ⟨some 144, none, .ld (.t 143)⟩,
  ⟨some 145, none, .bin .eql (.t 144) (.c (.int .i64 21))⟩,
  ⟨some 146, none, .eqb true (.t 142) (.t 145)⟩])
  (.cond (.t 146)
  (.ret)
  (.skip)))
  (.ops [⟨some 147, none, .mov (.t 4)⟩,
  ⟨some 6, none, .mov (.t 147)⟩])
def c4_pianolaref18_One : C :=
 .cond (.t 122)
  (c2_pianolaref18_One)
  (.seq (.seq (.ops [⟨some 139, none, .bin .eql (.t 18) (.c (.int .i64 21))⟩,
  ⟨some 138, none, .mov (.t 139)⟩])
  (.cond (.t 138)
  (.skip)
  (.ops [⟨some 140, none, .bin .eql (.t 18) (.c (.int .i64 22))⟩,
  ⟨some 138, none, .mov (.t 140)⟩])))
  (.cond (.t 138)
  (c3_pianolaref18_One)
  (.skip)))
def c5_pianolaref18_One : C :=
 .seq (.seq (.ops [⟨some 107, none, .bin .eql (.t 18) (.c (.int .i64 17))⟩,
  ⟨some 106, none, .mov (.t 107)⟩])
  (.cond (.t 106)
  (.skip)
  (.ops [⟨some 108, none, .bin .eql (.t 18) (.c (.int .i64 18))⟩,
  ⟨some 106, none, .mov (.t 108)⟩])))
  (.cond (.t 106)
  (c1_pianolaref18_One)
  (.seq (.seq (.ops [⟨some 123, none, .bin .eql (.t 18) (.c (.int .i64 19))⟩,
  ⟨some 122, none, .mov (.t 123)⟩])
  (.cond (.t 122)
  (.skip)
  (.ops [⟨some 124, none, .bin .eql (.t 18) (.c (.int .i64 20))⟩,
  ⟨some 122, none, .mov (.t 124)⟩])))
  (c4_pianolaref18_One)))
def c6_pianolaref18_One : C :=
 .cond (.t 96)
  (.ops [⟨some 98, none, .mov (.t 4)⟩,
  ⟨some 99, none, .call n_pianolaref1_Clz [(.t 98)]⟩,
  ⟨some 100, none, .conv .u32 (.t 99)⟩,
  ⟨some 6, none, .mov (.t 100)⟩])
  (.seq (.ops [⟨some 102, none, .bin .eql (.t 18) (.c (.int .i64 16))⟩,
  ⟨some 101, none, .mov (.t 102)⟩])
  (.cond (.t 101)
  (.ops [⟨some 103, none, .mov (.t 4)⟩,
  ⟨some 104, none, .call n_pianolaref1_Clo [(.t 103)]⟩,
  ⟨some 105, none, .conv .u32 (.t 104)⟩,
  ⟨some 6, none, .mov (.t 105)⟩])
  (c5_pianolaref18_One)))
def c7_pianolaref18_One : C :=
 .cond (.t 88)
  (.ops [⟨some 91, none, .mov (.t 4)⟩,
  ⟨some 92, none, .mov (.t 5)⟩,
  ⟨some 93, none, .call n_pianolaref1_Mul [(.t 91), (.t 92), (.c (.bool true))]⟩,
  ⟨some 90, none, .mov (.t 93)⟩,
  ⟨some 94, none, .ext (.t 90) 0⟩,
  ⟨some 95, none, .ext (.t 90) 1⟩,
  ⟨some 6, none, .mov (.t 95)⟩])
  (.seq (.ops [⟨some 97, none, .bin .eql (.t 18) (.c (.int .i64 15))⟩,
  ⟨some 96, none, .mov (.t 97)⟩])
  (c6_pianolaref18_One))
def c8_pianolaref18_One : C :=
 .seq (.seq (.ops [⟨some 79, none, .bin .eql (.t 18) (.c (.int .i64 12))⟩,
  ⟨some 78, none, .mov (.t 79)⟩])
  (.cond (.t 78)
  (.skip)
  (.ops [⟨some 80, none, .bin .eql (.t 18) (.c (.int .i64 13))⟩,
  ⟨some 78, none, .mov (.t 80)⟩])))
  (.cond (.t 78)
  (c0_pianolaref18_One)
  (.seq (.ops [⟨some 89, none, .bin .eql (.t 18) (.c (.int .i64 14))⟩,
  ⟨some 88, none, .mov (.t 89)⟩])
  (c7_pianolaref18_One)))
def c9_pianolaref18_One : C :=
 .seq (.ops [⟨some 72, none, .bin .eql (.t 18) (.c (.int .i64 11))⟩,
  ⟨some 71, none, .mov (.t 72)⟩])
  (.cond (.t 71)
  (.ops [⟨some 73, none, .mov (.t 4)⟩,
  ⟨some 74, none, .mov (.t 5)⟩,
  ⟨some 75, none, .bin .rem (.t 74) (.c (.int .u32 32))⟩,
  ⟨some 76, none, .conv .i64 (.t 75)⟩,
  ⟨some 77, none, .call n_pianolaref1_Sar [(.t 73), (.t 76)]⟩,
  ⟨some 6, none, .mov (.t 77)⟩])
  (c8_pianolaref18_One))
def c10_pianolaref18_One : C :=
 .seq (.ops [⟨some 66, none, .bin .eql (.t 18) (.c (.int .i64 10))⟩,
  ⟨some 65, none, .mov (.t 66)⟩])
  (.cond (.t 65)
  (.ops [⟨some 67, none, .mov (.t 4)⟩,
  ⟨some 68, none, .mov (.t 5)⟩,
  ⟨some 69, none, .bin .rem (.t 68) (.c (.int .u32 32))⟩,
  ⟨some 70, none, .bin .shr (.t 67) (.t 69)⟩,
  ⟨some 6, none, .mov (.t 70)⟩])
  (c9_pianolaref18_One))
def c11_pianolaref18_One : C :=
 .seq (.ops [⟨some 60, none, .bin .eql (.t 18) (.c (.int .i64 9))⟩,
  ⟨some 59, none, .mov (.t 60)⟩])
  (.cond (.t 59)
  (.ops [⟨some 61, none, .mov (.t 4)⟩,
  ⟨some 62, none, .mov (.t 5)⟩,
  ⟨some 63, none, .bin .rem (.t 62) (.c (.int .u32 32))⟩,
  ⟨some 64, none, .bin .shl (.t 61) (.t 63)⟩,
  ⟨some 6, none, .mov (.t 64)⟩])
  (c10_pianolaref18_One))
def c12_pianolaref18_One : C :=
 .seq (.ops [⟨some 54, none, .bin .eql (.t 18) (.c (.int .i64 8))⟩,
  ⟨some 53, none, .mov (.t 54)⟩])
  (.cond (.t 53)
  (.ops [⟨some 55, none, .mov (.t 4)⟩,
  ⟨some 56, none, .mov (.t 5)⟩,
  ⟨some 57, none, .bin .or (.t 55) (.t 56)⟩,
  ⟨some 58, none, .un .xor (.t 57)⟩,
  ⟨some 6, none, .mov (.t 58)⟩])
  (c11_pianolaref18_One))
def c13_pianolaref18_One : C :=
 .cond (.t 43)
  (.ops [⟨some 45, none, .mov (.t 4)⟩,
  ⟨some 46, none, .mov (.t 5)⟩,
  ⟨some 47, none, .bin .or (.t 45) (.t 46)⟩,
  ⟨some 6, none, .mov (.t 47)⟩])
  (.seq (.ops [⟨some 49, none, .bin .eql (.t 18) (.c (.int .i64 7))⟩,
  ⟨some 48, none, .mov (.t 49)⟩])
  (.cond (.t 48)
  (.ops [⟨some 50, none, .mov (.t 4)⟩,
  ⟨some 51, none, .mov (.t 5)⟩,
  ⟨some 52, none, .bin .xor (.t 50) (.t 51)⟩,
  ⟨some 6, none, .mov (.t 52)⟩])
  (c12_pianolaref18_One)))
def c14_pianolaref18_One : C :=
 .seq (.ops [⟨some 39, none, .bin .eql (.t 18) (.c (.int .i64 5))⟩,
  ⟨some 38, none, .mov (.t 39)⟩])
  (.cond (.t 38)
  (.ops [⟨some 40, none, .mov (.t 4)⟩,
  ⟨some 41, none, .mov (.t 5)⟩,
  ⟨some 42, none, .bin .and (.t 40) (.t 41)⟩,
  ⟨some 6, none, .mov (.t 42)⟩])
  (.seq (.ops [⟨some 44, none, .bin .eql (.t 18) (.c (.int .i64 6))⟩,
  ⟨some 43, none, .mov (.t 44)⟩])
  (c13_pianolaref18_One)))
def c15_pianolaref18_One : C :=
 .cond (.t 28)
  (.ops [⟨some 30, none, .mov (.t 4)⟩,
  ⟨some 31, none, .mov (.t 5)⟩,
  ⟨some 32, none, .bin .add (.t 30) (.t 31)⟩,
  ⟨some 6, none, .mov (.t 32)⟩])
  (.seq (.ops [⟨some 34, none, .bin .eql (.t 18) (.c (.int .i64 4))⟩,
  ⟨some 33, none, .mov (.t 34)⟩])
  (.cond (.t 33)
  (.ops [⟨some 35, none, .mov (.t 4)⟩,
  ⟨some 36, none, .mov (.t 5)⟩,
  ⟨some 37, none, .bin .sub (.t 35) (.t 36)⟩,
  ⟨some 6, none, .mov (.t 37)⟩])
  (c14_pianolaref18_One)))
def c16_pianolaref18_One : C :=
 .seq (.ops [⟨some 26, none, .bin .eql (.t 18) (.c (.int .i64 2))⟩,
  ⟨some 25, none, .mov (.t 26)⟩])
  (.cond (.t 25)
  (.ops [⟨some 27, none, .mov (.t 4)⟩,
  ⟨some 6, none, .mov (.t 27)⟩])
  (.seq (.ops [⟨some 29, none, .bin .eql (.t 18) (.c (.int .i64 3))⟩,
  ⟨some 28, none, .mov (.t 29)⟩])
  (c15_pianolaref18_One)))
def c17_pianolaref18_One : C :=
 .block 0
  (.seq (.ops [⟨some 20, none, .bin .eql (.t 18) (.c (.int .i64 0))⟩,
  ⟨some 19, none, .mov (.t 20)⟩])
  (.cond (.t 19)
  (.ret)
  (.seq (.ops [⟨some 22, none, .bin .eql (.t 18) (.c (.int .i64 1))⟩,
  ⟨some 21, none, .mov (.t 22)⟩])
  (.cond (.t 21)
  (.ops [⟨some 23, none, .fa 4 (.t 3)⟩,
  ⟨some 24, none, .ld (.t 23)⟩,
  ⟨some 6, none, .mov (.t 24)⟩])
  (c16_pianolaref18_One)))))
def c18_pianolaref18_One : C :=
 .seq (.ops [⟨some 148, none, .fa 1 (.t 3)⟩,
  ⟨some 149, none, .ld (.t 148)⟩,
  ⟨some 150, none, .bin .gtr (.t 149) (.c (.int .i64 0))⟩])
  (.cond (.t 150)
  (.ops [⟨some 151, none, .mov (.t 0)⟩,
  ⟨some 152, none, .fa 1 (.t 3)⟩,
  ⟨some 153, none, .ld (.t 152)⟩,
  ⟨some 154, none, .mov (.t 6)⟩,
  ⟨some 155, none, .ia 1 (.t 151) (.t 153)⟩,
  ⟨none, none, .st (.t 155) (.t 154)⟩])
  (.skip))
def c19_pianolaref18_One : C :=
 .seq (.any 0 [.op 0 ⟨some 7, none, .mov (.t 0)⟩,
  .op 1 ⟨some 8, none, .fa 2 (.t 3)⟩,
  .op 2 ⟨some 9, none, .ld (.t 8)⟩,
  .op 3 ⟨some 10, none, .ia 1 (.t 7) (.t 9)⟩,
  .op 4 ⟨some 11, none, .ld (.t 10)⟩,
  .op 5 ⟨some 12, none, .mov (.t 0)⟩,
  .op 6 ⟨some 13, none, .fa 3 (.t 3)⟩,
  .op 7 ⟨some 14, none, .ld (.t 13)⟩,
  .op 8 ⟨some 15, none, .ia 1 (.t 12) (.t 14)⟩,
  .op 9 ⟨some 16, none, .ld (.t 15)⟩,
  .op 10 ⟨some 4, none, .mov (.t 11)⟩,
  .op 11 ⟨some 5, none, .mov (.t 16)⟩])
  (.seq (.ops [⟨some 6, none, .mov (.c (.int .u32 0))⟩])
  (.seq (.seq (.ops [⟨some 17, none, .fa 0 (.t 3)⟩,
  ⟨some 18, none, .ld (.t 17)⟩])
  (c17_pianolaref18_One))
  (c18_pianolaref18_One)))
def c_pianolaref18_One : C :=
 .seq (.ops [⟨some 3, none, .box (.t 1)⟩])
  (c19_pianolaref18_One)
def f_pianolaref18_One : F := ⟨c_pianolaref18_One, [], some []⟩
theorem h_pianolaref18_One : compF Try.prog (compAny Try.prog) n_pianolaref18_One = some (f_pianolaref18_One.body, f_pianolaref18_One.res) := by kernel_rfl
/- slices.pdqsortOrdered[int] -/
def c0_slices_pdqsortOrdered_int : C :=
 .cond (.t 35)
  (.seq (.ops [⟨some 36, none, .mov (.t 0)⟩,
  ⟨some 37, none, .mov (.t 1)⟩,
  ⟨some 38, none, .mov (.t 2)⟩,
  ⟨some 39, none, .call n_slices_breakPatternsOrdered_int [(.t 36), (.t 37), (.t 38)]⟩])
  (.ops [⟨some 40, none, .mov (.t 3)⟩,
  ⟨some 41, none, .bin .sub (.t 40) (.c (.int .i64 1))⟩,
  ⟨some 3, none, .mov (.t 41)⟩]))
  (.skip)
def c1_slices_pdqsortOrdered_int : C :=
 .seq (.ops [⟨some 55, none, .mov (.t 2)⟩,
  ⟨some 56, none, .bin .sub (.t 55) (.c (.int .i64 1))⟩,
  ⟨some 57, none, .mov (.t 11)⟩,
  ⟨some 58, none, .mov (.t 1)⟩,
  ⟨some 59, none, .bin .sub (.t 57) (.t 58)⟩,
  ⟨some 60, none, .bin .sub (.t 56) (.t 59)⟩,
  ⟨some 11, none, .mov (.t 60)⟩])
  (.ops [⟨some 12, none, .mov (.c (.int .i64 1))⟩])
def c2_slices_pdqsortOrdered_int : C :=
 .seq (.ops [⟨some 88, none, .mov (.t 0)⟩,
  ⟨some 89, none, .mov (.t 1)⟩,
  ⟨some 90, none, .mov (.t 2)⟩,
  ⟨some 91, none, .mov (.t 11)⟩,
  ⟨some 92, none, .call n_slices_partitionEqualOrdered_int [(.t 88), (.t 89), (.t 90), (.t 91)]⟩,
  ⟨some 13, none, .mov (.t 92)⟩])
  (.seq (.ops [⟨some 93, none, .mov (.t 13)⟩,
  ⟨some 1, none, .mov (.t 93)⟩])
  (.exit 1))
def c3_slices_pdqsortOrdered_int : C :=
 .seq (.ops [⟨some 117, none, .mov (.t 0)⟩,
  ⟨some 118, none, .mov (.t 1)⟩,
  ⟨some 119, none, .mov (.t 14)⟩,
  ⟨some 120, none, .mov (.t 3)⟩,
  ⟨some 121, none, .call n_slices_pdqsortOrdered_int [(.t 117), (.t 118), (.t 119), (.t 120)]⟩])
  (.ops [⟨some 122, none, .mov (.t 14)⟩,
  ⟨some 123, none, .bin .add (.t 122) (.c (.int .i64 1))⟩,
  ⟨some 1, none, .mov (.t 123)⟩])
def c4_slices_pdqsortOrdered_int : C :=
 .seq (.ops [⟨some 127, none, .mov (.t 0)⟩,
  ⟨some 128, none, .mov (.t 14)⟩,
  ⟨some 129, none, .bin .add (.t 128) (.c (.int .i64 1))⟩,
  ⟨some 130, none, .mov (.t 2)⟩,
  ⟨some 131, none, .mov (.t 3)⟩,
  ⟨some 132, none, .call n_slices_pdqsortOrdered_int [(.t 127), (.t 129), (.t 130), (.t 131)]⟩])
  (.ops [⟨some 133, none, .mov (.t 14)⟩,
  ⟨some 2, none, .mov (.t 133)⟩])
def c5_slices_pdqsortOrdered_int : C :=
 .cond (.t 113)
  (.seq (.ops [⟨some 114, none, .mov (.t 16)⟩,
  ⟨some 115, none, .mov (.t 18)⟩,
  ⟨some 116, none, .bin .geq (.t 114) (.t 115)⟩,
  ⟨some 8, none, .mov (.t 116)⟩])
  (c3_slices_pdqsortOrdered_int))
  (.seq (.ops [⟨some 124, none, .mov (.t 17)⟩,
  ⟨some 125, none, .mov (.t 18)⟩,
  ⟨some 126, none, .bin .geq (.t 124) (.t 125)⟩,
  ⟨some 8, none, .mov (.t 126)⟩])
  (c4_slices_pdqsortOrdered_int))
def c6_slices_pdqsortOrdered_int : C :=
 .seq (.ops [⟨some 103, none, .mov (.t 14)⟩,
  ⟨some 104, none, .mov (.t 1)⟩,
  ⟨some 105, none, .bin .sub (.t 103) (.t 104)⟩,
  ⟨some 106, none, .mov (.t 2)⟩,
  ⟨some 107, none, .mov (.t 14)⟩,
  ⟨some 108, none, .bin .sub (.t 106) (.t 107)⟩,
  ⟨some 16, none, .mov (.t 105)⟩,
  ⟨some 17, none, .mov (.t 108)⟩])
  (.seq (.ops [⟨some 109, none, .mov (.t 10)⟩,
  ⟨some 110, none, .bin .quo (.t 109) (.c (.int .i64 8))⟩,
  ⟨some 18, none, .mov (.t 110)⟩])
  (.seq (.ops [⟨some 111, none, .mov (.t 16)⟩,
  ⟨some 112, none, .mov (.t 17)⟩,
  ⟨some 113, none, .bin .lss (.t 111) (.t 112)⟩])
  (c5_slices_pdqsortOrdered_int)))
def c7_slices_pdqsortOrdered_int : C :=
 .seq (.ops [⟨some 95, none, .mov (.t 0)⟩,
  ⟨some 96, none, .mov (.t 1)⟩,
  ⟨some 97, none, .mov (.t 2)⟩,
  ⟨some 98, none, .mov (.t 11)⟩,
  ⟨some 99, none, .call n_slices_partitionOrdered_int [(.t 95), (.t 96), (.t 97), (.t 98)]⟩,
  ⟨some 94, none, .mov (.t 99)⟩,
  ⟨some 100, none, .ext (.t 94) 0⟩,
  ⟨some 101, none, .ext (.t 94) 1⟩,
  ⟨some 14, none, .mov (.t 100)⟩,
  ⟨some 15, none, .mov (.t 101)⟩])
  (.seq (.ops [⟨some 102, none, .mov (.t 15)⟩,
  ⟨some 9, none, .mov (.t 102)⟩])
  (c6_slices_pdqsortOrdered_int))
def c8_slices_pdqsortOrdered_int : C :=
 .seq (.seq (.any 0 [.op 0 ⟨some 73, none, .mov (.t 1)⟩,
  .op 1 ⟨some 74, none, .bin .gtr (.t 73) (.c (.int .i64 0))⟩,
  .op 2 ⟨some 75, none, .mov (.t 74)⟩,
  .op 3 ⟨some 76, some (75, true), .mov (.t 0)⟩,
  .op 4 ⟨some 77, some (75, true), .mov (.t 1)⟩,
  .op 5 ⟨some 78, some (75, true), .bin .sub (.t 77) (.c (.int .i64 1))⟩,
  .op 6 ⟨some 79, some (75, true), .ia 1 (.t 76) (.t 78)⟩,
  .op 7 ⟨some 80, some (75, true), .ld (.t 79)⟩,
  .op 8 ⟨some 81, some (75, true), .mov (.t 0)⟩,
  .op 9 ⟨some 82, some (75, true), .mov (.t 11)⟩,
  .op 10 ⟨some 83, some (75, true), .ia 1 (.t 81) (.t 82)⟩,
  .op 11 ⟨some 84, some (75, true), .ld (.t 83)⟩,
  .op 12 ⟨some 85, some (75, true), .call n_cmp_Less_int [(.t 80), (.t 84)]⟩,
  .op 13 ⟨some 86, some (75, true), .un .not (.t 85)⟩,
  .op 14 ⟨some 87, none, .pick (.t 75) (.t 86) (.c (.bool false))⟩])
  (.cond (.t 87)
  (c2_slices_pdqsortOrdered_int)
  (.skip)))
  (c7_slices_pdqsortOrdered_int)
def c9_slices_pdqsortOrdered_int : C :=
 .seq (.seq (.ops [⟨some 61, none, .mov (.t 8)⟩,
  ⟨some 62, none, .mov (.t 61)⟩,
  ⟨some 63, some (62, true), .mov (.t 9)⟩,
  ⟨some 64, none, .pick (.t 62) (.t 63) (.c (.bool false))⟩,
  ⟨some 65, none, .mov (.t 64)⟩,
  ⟨some 66, some (65, true), .mov (.t 12)⟩,
  ⟨some 67, some (65, true), .bin .eql (.t 66) (.c (.int .i64 1))⟩,
  ⟨some 68, none, .pick (.t 65) (.t 67) (.c (.bool false))⟩])
  (.cond (.t 68)
  (.seq (.ops [⟨some 69, none, .mov (.t 0)⟩,
  ⟨some 70, none, .mov (.t 1)⟩,
  ⟨some 71, none, .mov (.t 2)⟩,
  ⟨some 72, none, .call n_slices_partialInsertionSortOrdered_int [(.t 69), (.t 70), (.t 71)]⟩])
  (.cond (.t 72)
  (.ret)
  (.skip)))
  (.skip)))
  (c8_slices_pdqsortOrdered_int)
def c10_slices_pdqsortOrdered_int : C :=
 .seq (.seq (.ops [⟨some 49, none, .mov (.t 12)⟩,
  ⟨some 50, none, .bin .eql (.t 49) (.c (.int .i64 2))⟩])
  (.cond (.t 50)
  (.seq (.ops [⟨some 51, none, .mov (.t 0)⟩,
  ⟨some 52, none, .mov (.t 1)⟩,
  ⟨some 53, none, .mov (.t 2)⟩,
  ⟨some 54, none, .call n_slices_reverseRangeOrdered_int [(.t 51), (.t 52), (.t 53)]⟩])
  (c1_slices_pdqsortOrdered_int))
  (.skip)))
  (c9_slices_pdqsortOrdered_int)
def c11_slices_pdqsortOrdered_int : C :=
 .seq (.ops [⟨some 43, none, .mov (.t 0)⟩,
  ⟨some 44, none, .mov (.t 1)⟩,
  ⟨some 45, none, .mov (.t 2)⟩,
  ⟨some 46, none, .call n_slices_choosePivotOrdered_int [(.t 43), (.t 44), (.t 45)]⟩,
  ⟨some 42, none, .mov (.t 46)⟩,
  ⟨some 47, none, .ext (.t 42) 0⟩,
  ⟨some 48, none, .ext (.t 42) 1⟩,
  ⟨some 11, none, .mov (.t 47)⟩,
  ⟨some 12, none, .mov (.t 48)⟩])
  (c10_slices_pdqsortOrdered_int)
def c12_slices_pdqsortOrdered_int : C :=
 .seq (.seq (.ops [⟨some 28, none, .mov (.t 3)⟩,
  ⟨some 29, none, .bin .eql (.t 28) (.c (.int .i64 0))⟩])
  (.cond (.t 29)
  (.seq (.ops [⟨some 30, none, .mov (.t 0)⟩,
  ⟨some 31, none, .mov (.t 1)⟩,
  ⟨some 32, none, .mov (.t 2)⟩,
  ⟨some 33, none, .call n_slices_heapSortOrdered_int [(.t 30), (.t 31), (.t 32)]⟩])
  (.ret))
  (.skip)))
  (.seq (.seq (.ops [⟨some 34, none, .mov (.t 8)⟩,
  ⟨some 35, none, .un .not (.t 34)⟩])
  (c0_slices_pdqsortOrdered_int))
  (c11_slices_pdqsortOrdered_int))
def c13_slices_pdqsortOrdered_int : C :=
 .seq (.seq (.ops [⟨some 22, none, .mov (.t 10)⟩,
  ⟨some 23, none, .bin .leq (.t 22) (.c (.int .i64 12))⟩])
  (.cond (.t 23)
  (.seq (.ops [⟨some 24, none, .mov (.t 0)⟩,
  ⟨some 25, none, .mov (.t 1)⟩,
  ⟨some 26, none, .mov (.t 2)⟩,
  ⟨some 27, none, .call n_slices_insertionSortOrdered_int [(.t 24), (.t 25), (.t 26)]⟩])
  (.ret))
  (.skip)))
  (c12_slices_pdqsortOrdered_int)
def c14_slices_pdqsortOrdered_int : C :=
 .block 1
  (.seq (.ops [⟨some 19, none, .mov (.t 2)⟩,
  ⟨some 20, none, .mov (.t 1)⟩,
  ⟨some 21, none, .bin .sub (.t 19) (.t 20)⟩,
  ⟨some 10, none, .mov (.t 21)⟩])
  (c13_slices_pdqsortOrdered_int))
def c_slices_pdqsortOrdered_int : C :=
 .seq (.ops [⟨some 8, none, .mov (.c (.bool true))⟩])
  (.seq (.ops [⟨some 9, none, .mov (.c (.bool true))⟩])
  (.block 0
  (.loop c14_slices_pdqsortOrdered_int)))
def f_slices_pdqsortOrdered_int : F := ⟨c_slices_pdqsortOrdered_int, [], some []⟩
theorem h_slices_pdqsortOrdered_int : compF Try.prog (compAny Try.prog) n_slices_pdqsortOrdered_int = some (f_slices_pdqsortOrdered_int.body, f_slices_pdqsortOrdered_int.res) := by kernel_rfl
/- math/bits.Len -/
def c0_math_bits_Len : C :=
 .seq (.cond (.c (.bool false))
  (.seq (.ops [⟨some 3, none, .mov (.t 0)⟩,
  ⟨some 4, none, .conv .u32 (.t 3)⟩,
  ⟨some 5, none, .call n_math_bits_Len32 [(.t 4)]⟩,
  ⟨some 2, none, .mov (.t 5)⟩])
  (.ret))
  (.skip))
  (.seq (.ops [⟨some 6, none, .mov (.t 0)⟩,
  ⟨some 7, none, .call n_math_bits_Len64 [(.t 6)]⟩,
  ⟨some 2, none, .mov (.t 7)⟩])
  (.ret))
def c_math_bits_Len : C :=
 .seq (.ops [⟨some 2, none, .mov (.c (.int .i64 0))⟩])
  (c0_math_bits_Len)
def f_math_bits_Len : F := ⟨c_math_bits_Len, [.t 2], some []⟩
theorem h_math_bits_Len : compF Try.prog (compAny Try.prog) n_math_bits_Len = some (f_math_bits_Len.body, f_math_bits_Len.res) := by kernel_rfl
/- slices.IndexFunc[[]int,int] -/
def c0_slices_IndexFunc_int_int : C :=
 .seq (.ops [⟨some 11, none, .mov (.t 1)⟩,
  ⟨some 12, none, .mov (.t 0)⟩,
  ⟨some 13, none, .mov (.t 5)⟩,
  ⟨some 14, none, .ia 1 (.t 12) (.t 13)⟩,
  ⟨some 15, none, .ld (.t 14)⟩,
  ⟨some 16, none, .callv (.t 11) [(.t 15)]⟩])
  (.cond (.t 16)
  (.seq (.ops [⟨some 17, none, .mov (.t 5)⟩,
  ⟨some 4, none, .mov (.t 17)⟩])
  (.ret))
  (.skip))
def c1_slices_IndexFunc_int_int : C :=
 .seq (.ops [⟨some 9, none, .bin .lss (.t 8) (.t 7)⟩])
  (.seq (.cond (.t 9)
  (.skip)
  (.exit 0))
  (.seq (.block 1
  (.seq (.ops [⟨some 10, none, .mov (.t 8)⟩,
  ⟨some 5, none, .mov (.t 10)⟩])
  (c0_slices_IndexFunc_int_int)))
  (.ops [⟨some 18, none, .bin .add (.t 8) (.c (.int .i64 1))⟩,
  ⟨some 8, none, .mov (.t 18)⟩])))
def c_slices_IndexFunc_int_int : C :=
 .seq (.ops [⟨some 4, none, .mov (.c (.int .i64 0))⟩])
  (.seq (.seq (.ops [⟨some 6, none, .mov (.t 0)⟩,
  ⟨some 7, none, .len 1 (.t 6)⟩,
  ⟨some 8, none, .mov (.c (.int .i64 0))⟩])
  (.block 0
  (.loop c1_slices_IndexFunc_int_int)))
  (.seq (.ops [⟨some 4, none, .mov (.c (.int .i64 (-1)))⟩])
  (.ret)))
def f_slices_IndexFunc_int_int : F := ⟨c_slices_IndexFunc_int_int, [.t 4], some []⟩
theorem h_slices_IndexFunc_int_int : compF Try.prog (compAny Try.prog) n_slices_IndexFunc_int_int = some (f_slices_IndexFunc_int_int.body, f_slices_IndexFunc_int_int.res) := by kernel_rfl
/- (*pianola/opt.facts).knows -/
def c0_opt_facts_knows : C :=
 .seq (.ops [⟨some 13, none, .mov (.t 0)⟩,
  ⟨some 14, none, .mov (.t 6)⟩,
  ⟨some 15, none, .nilc (.t 13)⟩,
  ⟨some 16, none, .fa 0 (.t 15)⟩,
  ⟨some 17, none, .iaa 40 1 (.t 16) (.t 14)⟩,
  ⟨some 18, none, .ld (.t 17)⟩,
  ⟨some 19, none, .un .not (.t 18)⟩])
  (.cond (.t 19)
  (.seq (.ops [⟨some 4, none, .mov (.c (.bool false))⟩])
  (.ret))
  (.skip))
def c1_opt_facts_knows : C :=
 .seq (.ops [⟨some 10, none, .bin .lss (.t 9) (.t 8)⟩])
  (.seq (.cond (.t 10)
  (.skip)
  (.exit 0))
  (.seq (.block 1
  (.seq (.ops [⟨some 11, none, .ia 1 (.t 7) (.t 9)⟩,
  ⟨some 12, none, .ld (.t 11)⟩,
  ⟨some 6, none, .mov (.t 12)⟩])
  (c0_opt_facts_knows)))
  (.ops [⟨some 20, none, .bin .add (.t 9) (.c (.int .i64 1))⟩,
  ⟨some 9, none, .mov (.t 20)⟩])))
def c_opt_facts_knows : C :=
 .seq (.ops [⟨some 4, none, .mov (.c (.bool false))⟩])
  (.seq (.seq (.ops [⟨some 7, none, .mov (.t 1)⟩,
  ⟨some 8, none, .len 1 (.t 7)⟩,
  ⟨some 9, none, .mov (.c (.int .i64 0))⟩])
  (.block 0
  (.loop c1_opt_facts_knows)))
  (.seq (.ops [⟨some 4, none, .mov (.c (.bool true))⟩])
  (.ret)))
def f_opt_facts_knows : F := ⟨c_opt_facts_knows, [.t 4], some []⟩
theorem h_opt_facts_knows : compF Try.prog (compAny Try.prog) n_opt_facts_knows = some (f_opt_facts_knows.body, f_opt_facts_knows.res) := by kernel_rfl
/- pianola/word.Sar -/
def c_word_Sar : C :=
 .seq (.ops [⟨some 4, none, .mov (.c (.int .u32 0))⟩])
  (.seq (.ops [⟨some 5, none, .mov (.t 0)⟩,
  ⟨some 6, none, .conv .i32 (.t 5)⟩,
  ⟨some 7, none, .mov (.t 1)⟩,
  ⟨some 8, none, .bin .and (.t 7) (.c (.int .i64 31))⟩,
  ⟨some 9, none, .bin .shr (.t 6) (.t 8)⟩,
  ⟨some 10, none, .conv .u32 (.t 9)⟩,
  ⟨some 4, none, .mov (.t 10)⟩])
  (.ret))
def f_word_Sar : F := ⟨c_word_Sar, [.t 4], some []⟩
theorem h_word_Sar : compF Try.prog (compAny Try.prog) n_word_Sar = some (f_word_Sar.body, f_word_Sar.res) := by kernel_rfl
/- pianola/ir.one -/
def c_ir_one : C :=
 .seq (.ops [⟨some 2, none, .mov (.c (.int .u32 0))⟩])
  (.seq (.seq (.ops [⟨some 3, none, .mov (.t 0)⟩])
  (.cond (.t 3)
  (.seq (.ops [⟨some 2, none, .mov (.c (.int .u32 1))⟩])
  (.ret))
  (.skip)))
  (.seq (.ops [⟨some 2, none, .mov (.c (.int .u32 0))⟩])
  (.ret)))
def f_ir_one : F := ⟨c_ir_one, [.t 2], some []⟩
theorem h_ir_one : compF Try.prog (compAny Try.prog) n_ir_one = some (f_ir_one.body, f_ir_one.res) := by kernel_rfl
/- pianola/word.Less -/
def c0_word_Less : C :=
 .seq (.seq (.ops [⟨some 7, none, .mov (.t 2)⟩])
  (.cond (.t 7)
  (.seq (.ops [⟨some 8, none, .mov (.t 0)⟩,
  ⟨some 9, none, .conv .i32 (.t 8)⟩,
  ⟨some 10, none, .mov (.t 1)⟩,
  ⟨some 11, none, .conv .i32 (.t 10)⟩,
  ⟨some 12, none, .bin .lss (.t 9) (.t 11)⟩,
  ⟨some 6, none, .mov (.t 12)⟩])
  (.ret))
  (.skip)))
  (.seq (.ops [⟨some 13, none, .mov (.t 0)⟩,
  ⟨some 14, none, .mov (.t 1)⟩,
  ⟨some 15, none, .bin .lss (.t 13) (.t 14)⟩,
  ⟨some 6, none, .mov (.t 15)⟩])
  (.ret))
def c_word_Less : C :=
 .seq (.ops [⟨some 6, none, .mov (.c (.bool false))⟩])
  (c0_word_Less)
def f_word_Less : F := ⟨c_word_Less, [.t 6], some []⟩
theorem h_word_Less : compF Try.prog (compAny Try.prog) n_word_Less = some (f_word_Less.body, f_word_Less.res) := by kernel_rfl
/- pianola/word.Clz -/
def c_word_Clz : C :=
 .seq (.ops [⟨some 2, none, .mov (.c (.int .i64 0))⟩])
  (.seq (.ops [⟨some 3, none, .mov (.t 0)⟩,
  ⟨some 4, none, .call n_math_bits_LeadingZeros32 [(.t 3)]⟩,
  ⟨some 2, none, .mov (.t 4)⟩])
  (.ret))
def f_word_Clz : F := ⟨c_word_Clz, [.t 2], some []⟩
theorem h_word_Clz : compF Try.prog (compAny Try.prog) n_word_Clz = some (f_word_Clz.body, f_word_Clz.res) := by kernel_rfl
/- pianola/word.Clo -/
def c_word_Clo : C :=
 .seq (.ops [⟨some 2, none, .mov (.c (.int .i64 0))⟩])
  (.seq (.ops [⟨some 3, none, .mov (.t 0)⟩,
  ⟨some 4, none, .un .xor (.t 3)⟩,
  ⟨some 5, none, .call n_math_bits_LeadingZeros32 [(.t 4)]⟩,
  ⟨some 2, none, .mov (.t 5)⟩])
  (.ret))
def f_word_Clo : F := ⟨c_word_Clo, [.t 2], some []⟩
theorem h_word_Clo : compF Try.prog (compAny Try.prog) n_word_Clo = some (f_word_Clo.body, f_word_Clo.res) := by kernel_rfl
/- pianola/pianolaref1.Sar -/
def c0_pianolaref1_Sar : C :=
 .seq (.block 1
  (.ops [⟨some 15, none, .mov (.t 0)⟩,
  ⟨some 16, none, .bin .shr (.t 15) (.c (.int .u64 1))⟩,
  ⟨some 17, none, .mov (.t 0)⟩,
  ⟨some 18, none, .bin .and (.t 17) (.c (.int .u32 2147483648))⟩,
  ⟨some 19, none, .bin .or (.t 16) (.t 18)⟩,
  ⟨some 0, none, .mov (.t 19)⟩]))
  (.ops [⟨some 13, none, .mov (.t 5)⟩,
  ⟨some 14, none, .bin .sub (.t 13) (.c (.int .u64 1))⟩,
  ⟨some 5, none, .mov (.t 14)⟩])
def c1_pianolaref1_Sar : C :=
 .seq (.seq (.ops [⟨some 11, none, .mov (.t 5)⟩,
  ⟨some 12, none, .bin .gtr (.t 11) (.c (.int .u64 0))⟩])
  (.cond (.t 12)
  (.skip)
  (.exit 0)))
  (c0_pianolaref1_Sar)
def c2_pianolaref1_Sar : C :=
 .seq (.ops [⟨some 6, none, .mov (.t 1)⟩,
  ⟨some 7, none, .bin .rem (.t 6) (.c (.int .i64 32))⟩,
  ⟨some 8, none, .bin .add (.t 7) (.c (.int .i64 32))⟩,
  ⟨some 9, none, .bin .rem (.t 8) (.c (.int .i64 32))⟩,
  ⟨some 10, none, .conv .u64 (.t 9)⟩,
  ⟨some 5, none, .mov (.t 10)⟩])
  (.seq (.block 0
  (.loop c1_pianolaref1_Sar))
  (.seq (.ops [⟨some 20, none, .mov (.t 0)⟩,
  ⟨some 4, none, .mov (.t 20)⟩])
  (.ret)))
def c_pianolaref1_Sar : C :=
 .seq (.ops [⟨some 4, none, .mov (.c (.int .u32 0))⟩])
  (c2_pianolaref1_Sar)
def f_pianolaref1_Sar : F := ⟨c_pianolaref1_Sar, [.t 4], some []⟩
theorem h_pianolaref1_Sar : compF Try.prog (compAny Try.prog) n_pianolaref1_Sar = some (f_pianolaref1_Sar.body, f_pianolaref1_Sar.res) := by kernel_rfl
/- pianola/pianolaref18.bit -/
def c_pianolaref18_bit : C :=
 .seq (.ops [⟨some 2, none, .mov (.c (.int .u32 0))⟩])
  (.seq (.seq (.ops [⟨some 3, none, .mov (.t 0)⟩])
  (.cond (.t 3)
  (.seq (.ops [⟨some 2, none, .mov (.c (.int .u32 1))⟩])
  (.ret))
  (.skip)))
  (.seq (.ops [⟨some 2, none, .mov (.c (.int .u32 0))⟩])
  (.ret)))
def f_pianolaref18_bit : F := ⟨c_pianolaref18_bit, [.t 2], some []⟩
theorem h_pianolaref18_bit : compF Try.prog (compAny Try.prog) n_pianolaref18_bit = some (f_pianolaref18_bit.body, f_pianolaref18_bit.res) := by kernel_rfl
/- pianola/pianolaref1.Less -/
def c0_pianolaref1_Less : C :=
 .seq (.ops [⟨some 7, none, .mov (.t 0)⟩,
  ⟨some 8, none, .mov (.t 2)⟩,
  ⟨some 9, none, .call n_pianolaref1_wide [(.t 7), (.t 8)]⟩,
  ⟨some 10, none, .mov (.t 1)⟩,
  ⟨some 11, none, .mov (.t 2)⟩,
  ⟨some 12, none, .call n_pianolaref1_wide [(.t 10), (.t 11)]⟩,
  ⟨some 13, none, .bin .lss (.t 9) (.t 12)⟩,
  ⟨some 6, none, .mov (.t 13)⟩])
  (.ret)
def c_pianolaref1_Less : C :=
 .seq (.ops [⟨some 6, none, .mov (.c (.bool false))⟩])
  (c0_pianolaref1_Less)
def f_pianolaref1_Less : F := ⟨c_pianolaref1_Less, [.t 6], some []⟩
theorem h_pianolaref1_Less : compF Try.prog (compAny Try.prog) n_pianolaref1_Less = some (f_pianolaref1_Less.body, f_pianolaref1_Less.res) := by kernel_rfl
/- pianola/pianolaref1.Mul -/
def c0_pianolaref1_Mul : C :=
 .seq (.seq (.ops [⟨some 26, none, .mov (.t 2)⟩,
  ⟨some 27, none, .mov (.t 26)⟩,
  ⟨some 28, some (27, true), .mov (.t 1)⟩,
  ⟨some 29, some (27, true), .bin .geq (.t 28) (.c (.int .u32 2147483648))⟩,
  ⟨some 30, none, .pick (.t 27) (.t 29) (.c (.bool false))⟩])
  (.cond (.t 30)
  (.ops [⟨some 31, none, .mov (.t 9)⟩,
  ⟨some 32, none, .mov (.t 0)⟩,
  ⟨some 33, none, .bin .sub (.t 31) (.t 32)⟩,
  ⟨some 9, none, .mov (.t 33)⟩])
  (.skip)))
  (.seq (.ops [⟨some 34, none, .mov (.t 9)⟩,
  ⟨some 35, none, .mov (.t 8)⟩,
  ⟨some 36, none, .conv .u32 (.t 35)⟩,
  ⟨some 6, none, .mov (.t 34)⟩,
  ⟨some 7, none, .mov (.t 36)⟩])
  (.ret))
def c1_pianolaref1_Mul : C :=
 .seq (.seq (.ops [⟨some 18, none, .mov (.t 2)⟩,
  ⟨some 19, none, .mov (.t 18)⟩,
  ⟨some 20, some (19, true), .mov (.t 0)⟩,
  ⟨some 21, some (19, true), .bin .geq (.t 20) (.c (.int .u32 2147483648))⟩,
  ⟨some 22, none, .pick (.t 19) (.t 21) (.c (.bool false))⟩])
  (.cond (.t 22)
  (.ops [⟨some 23, none, .mov (.t 9)⟩,
  ⟨some 24, none, .mov (.t 1)⟩,
  ⟨some 25, none, .bin .sub (.t 23) (.t 24)⟩,
  ⟨some 9, none, .mov (.t 25)⟩])
  (.skip)))
  (c0_pianolaref1_Mul)
def c2_pianolaref1_Mul : C :=
 .seq (.ops [⟨some 10, none, .mov (.t 0)⟩,
  ⟨some 11, none, .conv .u64 (.t 10)⟩,
  ⟨some 12, none, .mov (.t 1)⟩,
  ⟨some 13, none, .conv .u64 (.t 12)⟩,
  ⟨some 14, none, .bin .mul (.t 11) (.t 13)⟩,
  ⟨some 8, none, .mov (.t 14)⟩])
  (.seq (.ops [⟨some 15, none, .mov (.t 8)⟩,
  ⟨some 16, none, .bin .shr (.t 15) (.c (.int .u64 32))⟩,
  ⟨some 17, none, .conv .u32 (.t 16)⟩,
  ⟨some 9, none, .mov (.t 17)⟩])
  (c1_pianolaref1_Mul))
def c_pianolaref1_Mul : C :=
 .seq (.ops [⟨some 6, none, .mov (.c (.int .u32 0))⟩,
  ⟨some 7, none, .mov (.c (.int .u32 0))⟩])
  (c2_pianolaref1_Mul)
def f_pianolaref1_Mul : F := ⟨c_pianolaref1_Mul, [.t 6, .t 7], some []⟩
theorem h_pianolaref1_Mul : compF Try.prog (compAny Try.prog) n_pianolaref1_Mul = some (f_pianolaref1_Mul.body, f_pianolaref1_Mul.res) := by kernel_rfl
/- pianola/pianolaref1.Clz -/
def c0_pianolaref1_Clz : C :=
 .seq (.block 1
  (.seq (.seq (.ops [⟨some 9, none, .mov (.t 0)⟩,
  ⟨some 10, none, .mov (.t 4)⟩,
  ⟨some 11, none, .conv .u64 (.t 10)⟩,
  ⟨some 12, none, .bin .shr (.t 9) (.t 11)⟩,
  ⟨some 13, none, .bin .and (.t 12) (.c (.int .u32 1))⟩,
  ⟨some 14, none, .bin .eql (.t 13) (.c (.int .u32 1))⟩])
  (.cond (.t 14)
  (.seq (.ops [⟨some 15, none, .mov (.t 3)⟩,
  ⟨some 2, none, .mov (.t 15)⟩])
  (.ret))
  (.skip)))
  (.ops [⟨some 16, none, .mov (.t 3)⟩,
  ⟨some 17, none, .bin .add (.t 16) (.c (.int .i64 1))⟩,
  ⟨some 3, none, .mov (.t 17)⟩])))
  (.ops [⟨some 7, none, .mov (.t 4)⟩,
  ⟨some 8, none, .bin .sub (.t 7) (.c (.int .i64 1))⟩,
  ⟨some 4, none, .mov (.t 8)⟩])
def c1_pianolaref1_Clz : C :=
 .seq (.seq (.ops [⟨some 5, none, .mov (.t 4)⟩,
  ⟨some 6, none, .bin .geq (.t 5) (.c (.int .i64 0))⟩])
  (.cond (.t 6)
  (.skip)
  (.exit 0)))
  (c0_pianolaref1_Clz)
def c_pianolaref1_Clz : C :=
 .seq (.ops [⟨some 2, none, .mov (.c (.int .i64 0))⟩])
  (.seq (.ops [⟨some 3, none, .mov (.c (.int .i64 0))⟩])
  (.seq (.seq (.ops [⟨some 4, none, .mov (.c (.int .i64 31))⟩])
  (.block 0
  (.loop c1_pianolaref1_Clz)))
  (.seq (.ops [⟨some 18, none, .mov (.t 3)⟩,
  ⟨some 2, none, .mov (.t 18)⟩])
  (.ret))))
def f_pianolaref1_Clz : F := ⟨c_pianolaref1_Clz, [.t 2], some []⟩
theorem h_pianolaref1_Clz : compF Try.prog (compAny Try.prog) n_pianolaref1_Clz = some (f_pianolaref1_Clz.body, f_pianolaref1_Clz.res) := by kernel_rfl
/- pianola/pianolaref1.Clo -/
def c_pianolaref1_Clo : C :=
 .seq (.ops [⟨some 2, none, .mov (.c (.int .i64 0))⟩])
  (.seq (.ops [⟨some 3, none, .mov (.t 0)⟩,
  ⟨some 4, none, .un .xor (.t 3)⟩,
  ⟨some 5, none, .call n_pianolaref1_Clz [(.t 4)]⟩,
  ⟨some 2, none, .mov (.t 5)⟩])
  (.ret))
def f_pianolaref1_Clo : F := ⟨c_pianolaref1_Clo, [.t 2], some []⟩
theorem h_pianolaref1_Clo : compF Try.prog (compAny Try.prog) n_pianolaref1_Clo = some (f_pianolaref1_Clo.body, f_pianolaref1_Clo.res) := by kernel_rfl
/- pianola/pianolaref1.Div -/
def c0_pianolaref1_Div : C :=
 .seq (.any 0 [.op 0 ⟨some 19, none, .mov (.t 8)⟩,
  .op 1 ⟨some 20, none, .mov (.t 9)⟩,
  .op 2 ⟨some 21, none, .bin .quo (.t 19) (.t 20)⟩,
  .op 3 ⟨some 22, none, .conv .u32 (.t 21)⟩,
  .op 4 ⟨some 23, none, .mov (.t 8)⟩,
  .op 5 ⟨some 24, none, .mov (.t 9)⟩,
  .op 6 ⟨some 25, none, .bin .rem (.t 23) (.t 24)⟩,
  .op 7 ⟨some 26, none, .conv .u32 (.t 25)⟩,
  .op 8 ⟨some 6, none, .mov (.t 22)⟩,
  .op 9 ⟨some 7, none, .mov (.t 26)⟩])
  (.ret)
def c1_pianolaref1_Div : C :=
 .seq (.ops [⟨some 13, none, .mov (.t 0)⟩,
  ⟨some 14, none, .mov (.t 2)⟩,
  ⟨some 15, none, .call n_pianolaref1_wide [(.t 13), (.t 14)]⟩,
  ⟨some 16, none, .mov (.t 1)⟩,
  ⟨some 17, none, .mov (.t 2)⟩,
  ⟨some 18, none, .call n_pianolaref1_wide [(.t 16), (.t 17)]⟩,
  ⟨some 8, none, .mov (.t 15)⟩,
  ⟨some 9, none, .mov (.t 18)⟩])
  (c0_pianolaref1_Div)
def c_pianolaref1_Div : C :=
 .seq (.ops [⟨some 6, none, .mov (.c (.int .u32 0))⟩,
  ⟨some 7, none, .mov (.c (.int .u32 0))⟩])
  (.seq (.seq (.ops [⟨some 10, none, .mov (.t 1)⟩,
  ⟨some 11, none, .bin .eql (.t 10) (.c (.int .u32 0))⟩])
  (.cond (.t 11)
  (.seq (.ops [⟨some 12, none, .mov (.t 0)⟩,
  ⟨some 6, none, .mov (.c (.int .u32 4294967295))⟩,
  ⟨some 7, none, .mov (.t 12)⟩])
  (.ret))
  (.skip)))
  (c1_pianolaref1_Div))
def f_pianolaref1_Div : F := ⟨c_pianolaref1_Div, [.t 6, .t 7], some []⟩
theorem h_pianolaref1_Div : compF Try.prog (compAny Try.prog) n_pianolaref1_Div = some (f_pianolaref1_Div.body, f_pianolaref1_Div.res) := by kernel_rfl
/- slices.insertionSortOrdered[int] -/
def c0_slices_insertionSortOrdered_int : C :=
 .seq (.block 3
  (.any 0 [.op 5 ⟨some 38, none, .mov (.t 0)⟩,
  .op 6 ⟨some 39, none, .mov (.t 7)⟩,
  .op 7 ⟨some 40, none, .bin .sub (.t 39) (.c (.int .i64 1))⟩,
  .op 8 ⟨some 41, none, .ia 1 (.t 38) (.t 40)⟩,
  .op 9 ⟨some 42, none, .ld (.t 41)⟩,
  .op 10 ⟨some 43, none, .mov (.t 0)⟩,
  .op 11 ⟨some 44, none, .mov (.t 7)⟩,
  .op 12 ⟨some 45, none, .ia 1 (.t 43) (.t 44)⟩,
  .op 13 ⟨some 46, none, .ld (.t 45)⟩,
  .op 0 ⟨some 33, none, .mov (.t 0)⟩,
  .op 1 ⟨some 34, none, .mov (.t 7)⟩,
  .op 14 ⟨some 47, none, .ia 1 (.t 33) (.t 34)⟩,
  .op 15 ⟨none, none, .st (.t 47) (.t 42)⟩,
  .op 2 ⟨some 35, none, .mov (.t 0)⟩,
  .op 3 ⟨some 36, none, .mov (.t 7)⟩,
  .op 4 ⟨some 37, none, .bin .sub (.t 36) (.c (.int .i64 1))⟩,
  .op 16 ⟨some 48, none, .ia 1 (.t 35) (.t 37)⟩,
  .op 17 ⟨none, none, .st (.t 48) (.t 46)⟩]))
  (.ops [⟨some 31, none, .mov (.t 7)⟩,
  ⟨some 32, none, .bin .sub (.t 31) (.c (.int .i64 1))⟩,
  ⟨some 7, none, .mov (.t 32)⟩])
def c1_slices_insertionSortOrdered_int : C :=
 .seq (.seq (.any 0 [.op 0 ⟨some 16, none, .mov (.t 7)⟩,
  .op 1 ⟨some 17, none, .mov (.t 1)⟩,
  .op 2 ⟨some 18, none, .bin .gtr (.t 16) (.t 17)⟩,
  .op 3 ⟨some 19, none, .mov (.t 18)⟩,
  .op 4 ⟨some 20, some (19, true), .mov (.t 0)⟩,
  .op 5 ⟨some 21, some (19, true), .mov (.t 7)⟩,
  .op 6 ⟨some 22, some (19, true), .ia 1 (.t 20) (.t 21)⟩,
  .op 7 ⟨some 23, some (19, true), .ld (.t 22)⟩,
  .op 8 ⟨some 24, some (19, true), .mov (.t 0)⟩,
  .op 9 ⟨some 25, some (19, true), .mov (.t 7)⟩,
  .op 10 ⟨some 26, some (19, true), .bin .sub (.t 25) (.c (.int .i64 1))⟩,
  .op 11 ⟨some 27, some (19, true), .ia 1 (.t 24) (.t 26)⟩,
  .op 12 ⟨some 28, some (19, true), .ld (.t 27)⟩,
  .op 13 ⟨some 29, some (19, true), .call n_cmp_Less_int [(.t 23), (.t 28)]⟩,
  .op 14 ⟨some 30, none, .pick (.t 19) (.t 29) (.c (.bool false))⟩])
  (.cond (.t 30)
  (.skip)
  (.exit 2)))
  (c0_slices_insertionSortOrdered_int)
def c2_slices_insertionSortOrdered_int : C :=
 .seq (.seq (.ops [⟨some 10, none, .mov (.t 6)⟩,
  ⟨some 11, none, .mov (.t 2)⟩,
  ⟨some 12, none, .bin .lss (.t 10) (.t 11)⟩])
  (.cond (.t 12)
  (.skip)
  (.exit 0)))
  (.seq (.block 1
  (.seq (.ops [⟨some 15, none, .mov (.t 6)⟩,
  ⟨some 7, none, .mov (.t 15)⟩])
  (.block 2
  (.loop c1_slices_insertionSortOrdered_int))))
  (.ops [⟨some 13, none, .mov (.t 6)⟩,
  ⟨some 14, none, .bin .add (.t 13) (.c (.int .i64 1))⟩,
  ⟨some 6, none, .mov (.t 14)⟩]))
def c_slices_insertionSortOrdered_int : C :=
 .seq (.ops [⟨some 8, none, .mov (.t 1)⟩,
  ⟨some 9, none, .bin .add (.t 8) (.c (.int .i64 1))⟩,
  ⟨some 6, none, .mov (.t 9)⟩])
  (.block 0
  (.loop c2_slices_insertionSortOrdered_int))
def f_slices_insertionSortOrdered_int : F := ⟨c_slices_insertionSortOrdered_int, [], some []⟩
theorem h_slices_insertionSortOrdered_int : compF Try.prog (compAny Try.prog) n_slices_insertionSortOrdered_int = some (f_slices_insertionSortOrdered_int.body, f_slices_insertionSortOrdered_int.res) := by kernel_rfl
/- slices.heapSortOrdered[int] -/
def c0_slices_heapSortOrdered_int : C :=
 .seq (.block 1
  (.ops [⟨some 22, none, .mov (.t 0)⟩,
  ⟨some 23, none, .mov (.t 9)⟩,
  ⟨some 24, none, .mov (.t 8)⟩,
  ⟨some 25, none, .mov (.t 6)⟩,
  ⟨some 26, none, .call n_slices_siftDownOrdered_int [(.t 22), (.t 23), (.t 24), (.t 25)]⟩]))
  (.ops [⟨some 20, none, .mov (.t 9)⟩,
  ⟨some 21, none, .bin .sub (.t 20) (.c (.int .i64 1))⟩,
  ⟨some 9, none, .mov (.t 21)⟩])
def c1_slices_heapSortOrdered_int : C :=
 .seq (.seq (.ops [⟨some 18, none, .mov (.t 9)⟩,
  ⟨some 19, none, .bin .geq (.t 18) (.c (.int .i64 0))⟩])
  (.cond (.t 19)
  (.skip)
  (.exit 0)))
  (c0_slices_heapSortOrdered_int)
def c2_slices_heapSortOrdered_int : C :=
 .seq (.block 3
  (.seq (.any 0 [.op 6 ⟨some 39, none, .mov (.t 0)⟩,
  .op 7 ⟨some 40, none, .mov (.t 6)⟩,
  .op 8 ⟨some 41, none, .mov (.t 10)⟩,
  .op 9 ⟨some 42, none, .bin .add (.t 40) (.t 41)⟩,
  .op 10 ⟨some 43, none, .ia 1 (.t 39) (.t 42)⟩,
  .op 11 ⟨some 44, none, .ld (.t 43)⟩,
  .op 12 ⟨some 45, none, .mov (.t 0)⟩,
  .op 13 ⟨some 46, none, .mov (.t 6)⟩,
  .op 14 ⟨some 47, none, .ia 1 (.t 45) (.t 46)⟩,
  .op 15 ⟨some 48, none, .ld (.t 47)⟩,
  .op 0 ⟨some 33, none, .mov (.t 0)⟩,
  .op 1 ⟨some 34, none, .mov (.t 6)⟩,
  .op 16 ⟨some 49, none, .ia 1 (.t 33) (.t 34)⟩,
  .op 17 ⟨none, none, .st (.t 49) (.t 44)⟩,
  .op 2 ⟨some 35, none, .mov (.t 0)⟩,
  .op 3 ⟨some 36, none, .mov (.t 6)⟩,
  .op 4 ⟨some 37, none, .mov (.t 10)⟩,
  .op 5 ⟨some 38, none, .bin .add (.t 36) (.t 37)⟩,
  .op 18 ⟨some 50, none, .ia 1 (.t 35) (.t 38)⟩,
  .op 19 ⟨none, none, .st (.t 50) (.t 48)⟩])
  (.ops [⟨some 51, none, .mov (.t 0)⟩,
  ⟨some 52, none, .mov (.t 7)⟩,
  ⟨some 53, none, .mov (.t 10)⟩,
  ⟨some 54, none, .mov (.t 6)⟩,
  ⟨some 55, none, .call n_slices_siftDownOrdered_int [(.t 51), (.t 52), (.t 53), (.t 54)]⟩])))
  (.ops [⟨some 31, none, .mov (.t 10)⟩,
  ⟨some 32, none, .bin .sub (.t 31) (.c (.int .i64 1))⟩,
  ⟨some 10, none, .mov (.t 32)⟩])
def c3_slices_heapSortOrdered_int : C :=
 .seq (.seq (.ops [⟨some 29, none, .mov (.t 10)⟩,
  ⟨some 30, none, .bin .geq (.t 29) (.c (.int .i64 0))⟩])
  (.cond (.t 30)
  (.skip)
  (.exit 2)))
  (c2_slices_heapSortOrdered_int)
def c4_slices_heapSortOrdered_int : C :=
 .seq (.seq (.ops [⟨some 15, none, .mov (.t 8)⟩,
  ⟨some 16, none, .bin .sub (.t 15) (.c (.int .i64 1))⟩,
  ⟨some 17, none, .bin .quo (.t 16) (.c (.int .i64 2))⟩,
  ⟨some 9, none, .mov (.t 17)⟩])
  (.block 0
  (.loop c1_slices_heapSortOrdered_int)))
  (.seq (.ops [⟨some 27, none, .mov (.t 8)⟩,
  ⟨some 28, none, .bin .sub (.t 27) (.c (.int .i64 1))⟩,
  ⟨some 10, none, .mov (.t 28)⟩])
  (.block 2
  (.loop c3_slices_heapSortOrdered_int)))
def c_slices_heapSortOrdered_int : C :=
 .seq (.ops [⟨some 11, none, .mov (.t 1)⟩,
  ⟨some 6, none, .mov (.t 11)⟩])
  (.seq (.ops [⟨some 7, none, .mov (.c (.int .i64 0))⟩])
  (.seq (.ops [⟨some 12, none, .mov (.t 2)⟩,
  ⟨some 13, none, .mov (.t 1)⟩,
  ⟨some 14, none, .bin .sub (.t 12) (.t 13)⟩,
  ⟨some 8, none, .mov (.t 14)⟩])
  (c4_slices_heapSortOrdered_int)))
def f_slices_heapSortOrdered_int : F := ⟨c_slices_heapSortOrdered_int, [], some []⟩
theorem h_slices_heapSortOrdered_int : compF Try.prog (compAny Try.prog) n_slices_heapSortOrdered_int = some (f_slices_heapSortOrdered_int.body, f_slices_heapSortOrdered_int.res) := by kernel_rfl
/- slices.breakPatternsOrdered[int] -/
def c0_slices_breakPatternsOrdered_int : C :=
 .any 0 [.op 6 ⟨some 53, none, .mov (.t 0)⟩,
  .op 7 ⟨some 54, none, .mov (.t 1)⟩,
  .op 8 ⟨some 55, none, .mov (.t 10)⟩,
  .op 9 ⟨some 56, none, .bin .add (.t 54) (.t 55)⟩,
  .op 10 ⟨some 57, none, .ia 1 (.t 53) (.t 56)⟩,
  .op 11 ⟨some 58, none, .ld (.t 57)⟩,
  .op 12 ⟨some 59, none, .mov (.t 0)⟩,
  .op 13 ⟨some 60, none, .mov (.t 9)⟩,
  .op 14 ⟨some 61, none, .ia 1 (.t 59) (.t 60)⟩,
  .op 15 ⟨some 62, none, .ld (.t 61)⟩,
  .op 0 ⟨some 47, none, .mov (.t 0)⟩,
  .op 1 ⟨some 48, none, .mov (.t 9)⟩,
  .op 16 ⟨some 63, none, .ia 1 (.t 47) (.t 48)⟩,
  .op 17 ⟨none, none, .st (.t 63) (.t 58)⟩,
  .op 2 ⟨some 49, none, .mov (.t 0)⟩,
  .op 3 ⟨some 50, none, .mov (.t 1)⟩,
  .op 4 ⟨some 51, none, .mov (.t 10)⟩,
  .op 5 ⟨some 52, none, .bin .add (.t 50) (.t 51)⟩,
  .op 18 ⟨some 64, none, .ia 1 (.t 49) (.t 52)⟩,
  .op 19 ⟨none, none, .st (.t 64) (.t 62)⟩]
def c1_slices_breakPatternsOrdered_int : C :=
 .seq (.seq (.ops [⟨some 41, none, .mov (.t 10)⟩,
  ⟨some 42, none, .mov (.t 6)⟩,
  ⟨some 43, none, .bin .geq (.t 41) (.t 42)⟩])
  (.cond (.t 43)
  (.ops [⟨some 44, none, .mov (.t 10)⟩,
  ⟨some 45, none, .mov (.t 6)⟩,
  ⟨some 46, none, .bin .sub (.t 44) (.t 45)⟩,
  ⟨some 10, none, .mov (.t 46)⟩])
  (.skip)))
  (c0_slices_breakPatternsOrdered_int)
def c2_slices_breakPatternsOrdered_int : C :=
 .seq (.block 1
  (.seq (.ops [⟨some 36, none, .call n_slices_xorshift_Next [(.t 7)]⟩,
  ⟨some 37, none, .mov (.t 8)⟩,
  ⟨some 38, none, .bin .sub (.t 37) (.c (.int .u64 1))⟩,
  ⟨some 39, none, .bin .and (.t 36) (.t 38)⟩,
  ⟨some 40, none, .conv .i64 (.t 39)⟩,
  ⟨some 10, none, .mov (.t 40)⟩])
  (c1_slices_breakPatternsOrdered_int)))
  (.ops [⟨some 34, none, .mov (.t 9)⟩,
  ⟨some 35, none, .bin .add (.t 34) (.c (.int .i64 1))⟩,
  ⟨some 9, none, .mov (.t 35)⟩])
def c3_slices_breakPatternsOrdered_int : C :=
 .seq (.seq (.ops [⟨some 26, none, .mov (.t 9)⟩,
  ⟨some 27, none, .mov (.t 1)⟩,
  ⟨some 28, none, .mov (.t 6)⟩,
  ⟨some 29, none, .bin .quo (.t 28) (.c (.int .i64 4))⟩,
  ⟨some 30, none, .bin .mul (.t 29) (.c (.int .i64 2))⟩,
  ⟨some 31, none, .bin .add (.t 27) (.t 30)⟩,
  ⟨some 32, none, .bin .add (.t 31) (.c (.int .i64 1))⟩,
  ⟨some 33, none, .bin .leq (.t 26) (.t 32)⟩])
  (.cond (.t 33)
  (.skip)
  (.exit 0)))
  (c2_slices_breakPatternsOrdered_int)
def c4_slices_breakPatternsOrdered_int : C :=
 .seq (.ops [⟨some 20, none, .mov (.t 1)⟩,
  ⟨some 21, none, .mov (.t 6)⟩,
  ⟨some 22, none, .bin .quo (.t 21) (.c (.int .i64 4))⟩,
  ⟨some 23, none, .bin .mul (.t 22) (.c (.int .i64 2))⟩,
  ⟨some 24, none, .bin .add (.t 20) (.t 23)⟩,
  ⟨some 25, none, .bin .sub (.t 24) (.c (.int .i64 1))⟩,
  ⟨some 9, none, .mov (.t 25)⟩])
  (.block 0
  (.loop c3_slices_breakPatternsOrdered_int))
def c5_slices_breakPatternsOrdered_int : C :=
 .cond (.t 15)
  (.seq (.ops [⟨some 16, none, .mov (.t 6)⟩,
  ⟨some 17, none, .conv .u64 (.t 16)⟩,
  ⟨some 7, none, .new [(.int .u64 0)]⟩,
  ⟨none, none, .st (.t 7) (.t 17)⟩])
  (.seq (.ops [⟨some 18, none, .mov (.t 6)⟩,
  ⟨some 19, none, .call n_slices_nextPowerOfTwo [(.t 18)]⟩,
  ⟨some 8, none, .mov (.t 19)⟩])
  (c4_slices_breakPatternsOrdered_int)))
  (.skip)
def c_slices_breakPatternsOrdered_int : C :=
 .seq (.ops [⟨some 11, none, .mov (.t 2)⟩,
  ⟨some 12, none, .mov (.t 1)⟩,
  ⟨some 13, none, .bin .sub (.t 11) (.t 12)⟩,
  ⟨some 6, none, .mov (.t 13)⟩])
  (.seq (.ops [⟨some 14, none, .mov (.t 6)⟩,
  ⟨some 15, none, .bin .geq (.t 14) (.c (.int .i64 8))⟩])
  (c5_slices_breakPatternsOrdered_int))
def f_slices_breakPatternsOrdered_int : F := ⟨c_slices_breakPatternsOrdered_int, [], some []⟩
theorem h_slices_breakPatternsOrdered_int : compF Try.prog (compAny Try.prog) n_slices_breakPatternsOrdered_int = some (f_slices_breakPatternsOrdered_int.body, f_slices_breakPatternsOrdered_int.res) := by kernel_rfl
/- slices.choosePivotOrdered[int] -/
def c0_slices_choosePivotOrdered_int : C :=
 .seq (.ops [⟨some 38, none, .mov (.t 0)⟩,
  ⟨some 39, none, .mov (.t 11)⟩,
  ⟨some 40, none, .call n_slices_medianAdjacentOrdered_int [(.t 38), (.t 39), (.t 9)]⟩,
  ⟨some 11, none, .mov (.t 40)⟩])
  (.ops [⟨some 41, none, .mov (.t 0)⟩,
  ⟨some 42, none, .mov (.t 12)⟩,
  ⟨some 43, none, .call n_slices_medianAdjacentOrdered_int [(.t 41), (.t 42), (.t 9)]⟩,
  ⟨some 12, none, .mov (.t 43)⟩])
def c1_slices_choosePivotOrdered_int : C :=
 .seq (.seq (.ops [⟨some 33, none, .mov (.t 8)⟩,
  ⟨some 34, none, .bin .geq (.t 33) (.c (.int .i64 50))⟩])
  (.cond (.t 34)
  (.seq (.ops [⟨some 35, none, .mov (.t 0)⟩,
  ⟨some 36, none, .mov (.t 10)⟩,
  ⟨some 37, none, .call n_slices_medianAdjacentOrdered_int [(.t 35), (.t 36), (.t 9)]⟩,
  ⟨some 10, none, .mov (.t 37)⟩])
  (c0_slices_choosePivotOrdered_int))
  (.skip)))
  (.ops [⟨some 44, none, .mov (.t 0)⟩,
  ⟨some 45, none, .mov (.t 10)⟩,
  ⟨some 46, none, .mov (.t 11)⟩,
  ⟨some 47, none, .mov (.t 12)⟩,
  ⟨some 48, none, .call n_slices_medianOrdered_int [(.t 44), (.t 45), (.t 46), (.t 47), (.t 9)]⟩,
  ⟨some 11, none, .mov (.t 48)⟩])
def c2_slices_choosePivotOrdered_int : C :=
 .seq (.ops [⟨some 55, none, .bin .eql (.t 49) (.c (.int .i64 12))⟩,
  ⟨some 54, none, .mov (.t 55)⟩])
  (.cond (.t 54)
  (.seq (.ops [⟨some 56, none, .mov (.t 11)⟩,
  ⟨some 6, none, .mov (.t 56)⟩,
  ⟨some 7, none, .mov (.c (.int .i64 2))⟩])
  (.ret))
  (.seq (.ops [⟨some 50, none, .mov (.t 11)⟩,
  ⟨some 6, none, .mov (.t 50)⟩,
  ⟨some 7, none, .mov (.c (.int .i64 0))⟩])
  (.ret)))
def c3_slices_choosePivotOrdered_int : C :=
 .seq (.ops [⟨some 49, none, .ld (.t 9)⟩])
  (.block 0
  (.seq (.ops [⟨some 52, none, .bin .eql (.t 49) (.c (.int .i64 0))⟩,
  ⟨some 51, none, .mov (.t 52)⟩])
  (.cond (.t 51)
  (.seq (.ops [⟨some 53, none, .mov (.t 11)⟩,
  ⟨some 6, none, .mov (.t 53)⟩,
  ⟨some 7, none, .mov (.c (.int .i64 1))⟩])
  (.ret))
  (c2_slices_choosePivotOrdered_int))))
def c4_slices_choosePivotOrdered_int : C :=
 .seq (.ops [⟨some 26, none, .mov (.t 1)⟩,
  ⟨some 27, none, .mov (.t 8)⟩,
  ⟨some 28, none, .bin .quo (.t 27) (.c (.int .i64 4))⟩,
  ⟨some 29, none, .bin .mul (.t 28) (.c (.int .i64 3))⟩,
  ⟨some 30, none, .bin .add (.t 26) (.t 29)⟩,
  ⟨some 12, none, .mov (.t 30)⟩])
  (.seq (.seq (.ops [⟨some 31, none, .mov (.t 8)⟩,
  ⟨some 32, none, .bin .geq (.t 31) (.c (.int .i64 8))⟩])
  (.cond (.t 32)
  (c1_slices_choosePivotOrdered_int)
  (.skip)))
  (c3_slices_choosePivotOrdered_int))
def c5_slices_choosePivotOrdered_int : C :=
 .seq (.ops [⟨some 16, none, .mov (.t 1)⟩,
  ⟨some 17, none, .mov (.t 8)⟩,
  ⟨some 18, none, .bin .quo (.t 17) (.c (.int .i64 4))⟩,
  ⟨some 19, none, .bin .mul (.t 18) (.c (.int .i64 1))⟩,
  ⟨some 20, none, .bin .add (.t 16) (.t 19)⟩,
  ⟨some 10, none, .mov (.t 20)⟩])
  (.seq (.ops [⟨some 21, none, .mov (.t 1)⟩,
  ⟨some 22, none, .mov (.t 8)⟩,
  ⟨some 23, none, .bin .quo (.t 22) (.c (.int .i64 4))⟩,
  ⟨some 24, none, .bin .mul (.t 23) (.c (.int .i64 2))⟩,
  ⟨some 25, none, .bin .add (.t 21) (.t 24)⟩,
  ⟨some 11, none, .mov (.t 25)⟩])
  (c4_slices_choosePivotOrdered_int))
def c_slices_choosePivotOrdered_int : C :=
 .seq (.ops [⟨some 6, none, .mov (.c (.int .i64 0))⟩,
  ⟨some 7, none, .mov (.c (.int .i64 0))⟩])
  (.seq (.ops [⟨some 13, none, .mov (.t 2)⟩,
  ⟨some 14, none, .mov (.t 1)⟩,
  ⟨some 15, none, .bin .sub (.t 13) (.t 14)⟩,
  ⟨some 8, none, .mov (.t 15)⟩])
  (.seq (.ops [⟨some 9, none, .new [(.int .i64 0)]⟩])
  (c5_slices_choosePivotOrdered_int)))
def f_slices_choosePivotOrdered_int : F := ⟨c_slices_choosePivotOrdered_int, [.t 6, .t 7], some []⟩
theorem h_slices_choosePivotOrdered_int : compF Try.prog (compAny Try.prog) n_slices_choosePivotOrdered_int = some (f_slices_choosePivotOrdered_int.body, f_slices_choosePivotOrdered_int.res) := by kernel_rfl
/- slices.reverseRangeOrdered[int] -/
def c0_slices_reverseRangeOrdered_int : C :=
 .block 1
  (.seq (.any 0 [.op 4 ⟨some 18, none, .mov (.t 0)⟩,
  .op 5 ⟨some 19, none, .mov (.t 7)⟩,
  .op 6 ⟨some 20, none, .ia 1 (.t 18) (.t 19)⟩,
  .op 7 ⟨some 21, none, .ld (.t 20)⟩,
  .op 8 ⟨some 22, none, .mov (.t 0)⟩,
  .op 9 ⟨some 23, none, .mov (.t 6)⟩,
  .op 10 ⟨some 24, none, .ia 1 (.t 22) (.t 23)⟩,
  .op 11 ⟨some 25, none, .ld (.t 24)⟩,
  .op 0 ⟨some 14, none, .mov (.t 0)⟩,
  .op 1 ⟨some 15, none, .mov (.t 6)⟩,
  .op 12 ⟨some 26, none, .ia 1 (.t 14) (.t 15)⟩,
  .op 13 ⟨none, none, .st (.t 26) (.t 21)⟩,
  .op 2 ⟨some 16, none, .mov (.t 0)⟩,
  .op 3 ⟨some 17, none, .mov (.t 7)⟩,
  .op 14 ⟨some 27, none, .ia 1 (.t 16) (.t 17)⟩,
  .op 15 ⟨none, none, .st (.t 27) (.t 25)⟩])
  (.seq (.ops [⟨some 28, none, .mov (.t 6)⟩,
  ⟨some 29, none, .bin .add (.t 28) (.c (.int .i64 1))⟩,
  ⟨some 6, none, .mov (.t 29)⟩])
  (.ops [⟨some 30, none, .mov (.t 7)⟩,
  ⟨some 31, none, .bin .sub (.t 30) (.c (.int .i64 1))⟩,
  ⟨some 7, none, .mov (.t 31)⟩])))
def c1_slices_reverseRangeOrdered_int : C :=
 .seq (.seq (.ops [⟨some 11, none, .mov (.t 6)⟩,
  ⟨some 12, none, .mov (.t 7)⟩,
  ⟨some 13, none, .bin .lss (.t 11) (.t 12)⟩])
  (.cond (.t 13)
  (.skip)
  (.exit 0)))
  (c0_slices_reverseRangeOrdered_int)
def c_slices_reverseRangeOrdered_int : C :=
 .seq (.ops [⟨some 8, none, .mov (.t 1)⟩,
  ⟨some 6, none, .mov (.t 8)⟩])
  (.seq (.ops [⟨some 9, none, .mov (.t 2)⟩,
  ⟨some 10, none, .bin .sub (.t 9) (.c (.int .i64 1))⟩,
  ⟨some 7, none, .mov (.t 10)⟩])
  (.block 0
  (.loop c1_slices_reverseRangeOrdered_int)))
def f_slices_reverseRangeOrdered_int : F := ⟨c_slices_reverseRangeOrdered_int, [], some []⟩
theorem h_slices_reverseRangeOrdered_int : compF Try.prog (compAny Try.prog) n_slices_reverseRangeOrdered_int = some (f_slices_reverseRangeOrdered_int.body, f_slices_reverseRangeOrdered_int.res) := by kernel_rfl
/- slices.partialInsertionSortOrdered[int] -/
def c0_slices_partialInsertionSortOrdered_int : C :=
 .seq (.seq (.any 0 [.op 0 ⟨some 17, none, .mov (.t 7)⟩,
  .op 1 ⟨some 18, none, .mov (.t 2)⟩,
  .op 2 ⟨some 19, none, .bin .lss (.t 17) (.t 18)⟩,
  .op 3 ⟨some 20, none, .mov (.t 19)⟩,
  .op 4 ⟨some 21, some (20, true), .mov (.t 0)⟩,
  .op 5 ⟨some 22, some (20, true), .mov (.t 7)⟩,
  .op 6 ⟨some 23, some (20, true), .ia 1 (.t 21) (.t 22)⟩,
  .op 7 ⟨some 24, some (20, true), .ld (.t 23)⟩,
  .op 8 ⟨some 25, some (20, true), .mov (.t 0)⟩,
  .op 9 ⟨some 26, some (20, true), .mov (.t 7)⟩,
  .op 10 ⟨some 27, some (20, true), .bin .sub (.t 26) (.c (.int .i64 1))⟩,
  .op 11 ⟨some 28, some (20, true), .ia 1 (.t 25) (.t 27)⟩,
  .op 12 ⟨some 29, some (20, true), .ld (.t 28)⟩,
  .op 13 ⟨some 30, some (20, true), .call n_cmp_Less_int [(.t 24), (.t 29)]⟩,
  .op 14 ⟨some 31, some (20, true), .un .not (.t 30)⟩,
  .op 15 ⟨some 32, none, .pick (.t 20) (.t 31) (.c (.bool false))⟩])
  (.cond (.t 32)
  (.skip)
  (.exit 2)))
  (.block 3
  (.ops [⟨some 33, none, .mov (.t 7)⟩,
  ⟨some 34, none, .bin .add (.t 33) (.c (.int .i64 1))⟩,
  ⟨some 7, none, .mov (.t 34)⟩]))
def c1_slices_partialInsertionSortOrdered_int : C :=
 .any 0 [.op 5 ⟨some 84, none, .mov (.t 0)⟩,
  .op 6 ⟨some 85, none, .mov (.t 9)⟩,
  .op 7 ⟨some 86, none, .bin .sub (.t 85) (.c (.int .i64 1))⟩,
  .op 8 ⟨some 87, none, .ia 1 (.t 84) (.t 86)⟩,
  .op 9 ⟨some 88, none, .ld (.t 87)⟩,
  .op 10 ⟨some 89, none, .mov (.t 0)⟩,
  .op 11 ⟨some 90, none, .mov (.t 9)⟩,
  .op 12 ⟨some 91, none, .ia 1 (.t 89) (.t 90)⟩,
  .op 13 ⟨some 92, none, .ld (.t 91)⟩,
  .op 0 ⟨some 79, none, .mov (.t 0)⟩,
  .op 1 ⟨some 80, none, .mov (.t 9)⟩,
  .op 14 ⟨some 93, none, .ia 1 (.t 79) (.t 80)⟩,
  .op 15 ⟨none, none, .st (.t 93) (.t 88)⟩,
  .op 2 ⟨some 81, none, .mov (.t 0)⟩,
  .op 3 ⟨some 82, none, .mov (.t 9)⟩,
  .op 4 ⟨some 83, none, .bin .sub (.t 82) (.c (.int .i64 1))⟩,
  .op 16 ⟨some 94, none, .ia 1 (.t 81) (.t 83)⟩,
  .op 17 ⟨none, none, .st (.t 94) (.t 92)⟩]
def c2_slices_partialInsertionSortOrdered_int : C :=
 .seq (.block 5
  (.seq (.seq (.any 0 [.op 0 ⟨some 68, none, .mov (.t 0)⟩,
  .op 1 ⟨some 69, none, .mov (.t 9)⟩,
  .op 2 ⟨some 70, none, .ia 1 (.t 68) (.t 69)⟩,
  .op 3 ⟨some 71, none, .ld (.t 70)⟩,
  .op 4 ⟨some 72, none, .mov (.t 0)⟩,
  .op 5 ⟨some 73, none, .mov (.t 9)⟩,
  .op 6 ⟨some 74, none, .bin .sub (.t 73) (.c (.int .i64 1))⟩,
  .op 7 ⟨some 75, none, .ia 1 (.t 72) (.t 74)⟩,
  .op 8 ⟨some 76, none, .ld (.t 75)⟩,
  .op 9 ⟨some 77, none, .call n_cmp_Less_int [(.t 71), (.t 76)]⟩,
  .op 10 ⟨some 78, none, .un .not (.t 77)⟩])
  (.cond (.t 78)
  (.exit 4)
  (.skip)))
  (c1_slices_partialInsertionSortOrdered_int)))
  (.ops [⟨some 66, none, .mov (.t 9)⟩,
  ⟨some 67, none, .bin .sub (.t 66) (.c (.int .i64 1))⟩,
  ⟨some 9, none, .mov (.t 67)⟩])
def c3_slices_partialInsertionSortOrdered_int : C :=
 .seq (.seq (.ops [⟨some 64, none, .mov (.t 9)⟩,
  ⟨some 65, none, .bin .geq (.t 64) (.c (.int .i64 1))⟩])
  (.cond (.t 65)
  (.skip)
  (.exit 4)))
  (c2_slices_partialInsertionSortOrdered_int)
def c4_slices_partialInsertionSortOrdered_int : C :=
 .any 0 [.op 5 ⟨some 122, none, .mov (.t 0)⟩,
  .op 6 ⟨some 123, none, .mov (.t 10)⟩,
  .op 7 ⟨some 124, none, .bin .sub (.t 123) (.c (.int .i64 1))⟩,
  .op 8 ⟨some 125, none, .ia 1 (.t 122) (.t 124)⟩,
  .op 9 ⟨some 126, none, .ld (.t 125)⟩,
  .op 10 ⟨some 127, none, .mov (.t 0)⟩,
  .op 11 ⟨some 128, none, .mov (.t 10)⟩,
  .op 12 ⟨some 129, none, .ia 1 (.t 127) (.t 128)⟩,
  .op 13 ⟨some 130, none, .ld (.t 129)⟩,
  .op 0 ⟨some 117, none, .mov (.t 0)⟩,
  .op 1 ⟨some 118, none, .mov (.t 10)⟩,
  .op 14 ⟨some 131, none, .ia 1 (.t 117) (.t 118)⟩,
  .op 15 ⟨none, none, .st (.t 131) (.t 126)⟩,
  .op 2 ⟨some 119, none, .mov (.t 0)⟩,
  .op 3 ⟨some 120, none, .mov (.t 10)⟩,
  .op 4 ⟨some 121, none, .bin .sub (.t 120) (.c (.int .i64 1))⟩,
  .op 16 ⟨some 132, none, .ia 1 (.t 119) (.t 121)⟩,
  .op 17 ⟨none, none, .st (.t 132) (.t 130)⟩]
def c5_slices_partialInsertionSortOrdered_int : C :=
 .seq (.block 7
  (.seq (.seq (.any 0 [.op 0 ⟨some 106, none, .mov (.t 0)⟩,
  .op 1 ⟨some 107, none, .mov (.t 10)⟩,
  .op 2 ⟨some 108, none, .ia 1 (.t 106) (.t 107)⟩,
  .op 3 ⟨some 109, none, .ld (.t 108)⟩,
  .op 4 ⟨some 110, none, .mov (.t 0)⟩,
  .op 5 ⟨some 111, none, .mov (.t 10)⟩,
  .op 6 ⟨some 112, none, .bin .sub (.t 111) (.c (.int .i64 1))⟩,
  .op 7 ⟨some 113, none, .ia 1 (.t 110) (.t 112)⟩,
  .op 8 ⟨some 114, none, .ld (.t 113)⟩,
  .op 9 ⟨some 115, none, .call n_cmp_Less_int [(.t 109), (.t 114)]⟩,
  .op 10 ⟨some 116, none, .un .not (.t 115)⟩])
  (.cond (.t 116)
  (.exit 6)
  (.skip)))
  (c4_slices_partialInsertionSortOrdered_int)))
  (.ops [⟨some 104, none, .mov (.t 10)⟩,
  ⟨some 105, none, .bin .add (.t 104) (.c (.int .i64 1))⟩,
  ⟨some 10, none, .mov (.t 105)⟩])
def c6_slices_partialInsertionSortOrdered_int : C :=
 .seq (.seq (.ops [⟨some 101, none, .mov (.t 10)⟩,
  ⟨some 102, none, .mov (.t 2)⟩,
  ⟨some 103, none, .bin .lss (.t 101) (.t 102)⟩])
  (.cond (.t 103)
  (.skip)
  (.exit 6)))
  (c5_slices_partialInsertionSortOrdered_int)
def c7_slices_partialInsertionSortOrdered_int : C :=
 .seq (.ops [⟨some 95, none, .mov (.t 2)⟩,
  ⟨some 96, none, .mov (.t 7)⟩,
  ⟨some 97, none, .bin .sub (.t 95) (.t 96)⟩,
  ⟨some 98, none, .bin .geq (.t 97) (.c (.int .i64 2))⟩])
  (.cond (.t 98)
  (.seq (.ops [⟨some 99, none, .mov (.t 7)⟩,
  ⟨some 100, none, .bin .add (.t 99) (.c (.int .i64 1))⟩,
  ⟨some 10, none, .mov (.t 100)⟩])
  (.block 6
  (.loop c6_slices_partialInsertionSortOrdered_int)))
  (.skip))
def c8_slices_partialInsertionSortOrdered_int : C :=
 .seq (.seq (.ops [⟨some 58, none, .mov (.t 7)⟩,
  ⟨some 59, none, .mov (.t 1)⟩,
  ⟨some 60, none, .bin .sub (.t 58) (.t 59)⟩,
  ⟨some 61, none, .bin .geq (.t 60) (.c (.int .i64 2))⟩])
  (.cond (.t 61)
  (.seq (.ops [⟨some 62, none, .mov (.t 7)⟩,
  ⟨some 63, none, .bin .sub (.t 62) (.c (.int .i64 1))⟩,
  ⟨some 9, none, .mov (.t 63)⟩])
  (.block 4
  (.loop c3_slices_partialInsertionSortOrdered_int)))
  (.skip)))
  (c7_slices_partialInsertionSortOrdered_int)
def c9_slices_partialInsertionSortOrdered_int : C :=
 .seq (.any 0 [.op 5 ⟨some 47, none, .mov (.t 0)⟩,
  .op 6 ⟨some 48, none, .mov (.t 7)⟩,
  .op 7 ⟨some 49, none, .bin .sub (.t 48) (.c (.int .i64 1))⟩,
  .op 8 ⟨some 50, none, .ia 1 (.t 47) (.t 49)⟩,
  .op 9 ⟨some 51, none, .ld (.t 50)⟩,
  .op 10 ⟨some 52, none, .mov (.t 0)⟩,
  .op 11 ⟨some 53, none, .mov (.t 7)⟩,
  .op 12 ⟨some 54, none, .ia 1 (.t 52) (.t 53)⟩,
  .op 13 ⟨some 55, none, .ld (.t 54)⟩,
  .op 0 ⟨some 42, none, .mov (.t 0)⟩,
  .op 1 ⟨some 43, none, .mov (.t 7)⟩,
  .op 14 ⟨some 56, none, .ia 1 (.t 42) (.t 43)⟩,
  .op 15 ⟨none, none, .st (.t 56) (.t 51)⟩,
  .op 2 ⟨some 44, none, .mov (.t 0)⟩,
  .op 3 ⟨some 45, none, .mov (.t 7)⟩,
  .op 4 ⟨some 46, none, .bin .sub (.t 45) (.c (.int .i64 1))⟩,
  .op 16 ⟨some 57, none, .ia 1 (.t 44) (.t 46)⟩,
  .op 17 ⟨none, none, .st (.t 57) (.t 55)⟩])
  (c8_slices_partialInsertionSortOrdered_int)
def c10_slices_partialInsertionSortOrdered_int : C :=
 .seq (.seq (.ops [⟨some 35, none, .mov (.t 7)⟩,
  ⟨some 36, none, .mov (.t 2)⟩,
  ⟨some 37, none, .bin .eql (.t 35) (.t 36)⟩])
  (.cond (.t 37)
  (.seq (.ops [⟨some 6, none, .mov (.c (.bool true))⟩])
  (.ret))
  (.skip)))
  (.seq (.seq (.ops [⟨some 38, none, .mov (.t 2)⟩,
  ⟨some 39, none, .mov (.t 1)⟩,
  ⟨some 40, none, .bin .sub (.t 38) (.t 39)⟩,
  ⟨some 41, none, .bin .lss (.t 40) (.c (.int .i64 50))⟩])
  (.cond (.t 41)
  (.seq (.ops [⟨some 6, none, .mov (.c (.bool false))⟩])
  (.ret))
  (.skip)))
  (c9_slices_partialInsertionSortOrdered_int))
def c11_slices_partialInsertionSortOrdered_int : C :=
 .seq (.seq (.ops [⟨some 13, none, .mov (.t 8)⟩,
  ⟨some 14, none, .bin .lss (.t 13) (.c (.int .i64 5))⟩])
  (.cond (.t 14)
  (.skip)
  (.exit 0)))
  (.seq (.block 1
  (.seq (.block 2
  (.loop c0_slices_partialInsertionSortOrdered_int))
  (c10_slices_partialInsertionSortOrdered_int)))
  (.ops [⟨some 15, none, .mov (.t 8)⟩,
  ⟨some 16, none, .bin .add (.t 15) (.c (.int .i64 1))⟩,
  ⟨some 8, none, .mov (.t 16)⟩]))
def c_slices_partialInsertionSortOrdered_int : C :=
 .seq (.ops [⟨some 6, none, .mov (.c (.bool false))⟩])
  (.seq (.ops [⟨some 11, none, .mov (.t 1)⟩,
  ⟨some 12, none, .bin .add (.t 11) (.c (.int .i64 1))⟩,
  ⟨some 7, none, .mov (.t 12)⟩])
  (.seq (.seq (.ops [⟨some 8, none, .mov (.c (.int .i64 0))⟩])
  (.block 0
  (.loop c11_slices_partialInsertionSortOrdered_int)))
  (.seq (.ops [⟨some 6, none, .mov (.c (.bool false))⟩])
  (.ret))))
def f_slices_partialInsertionSortOrdered_int : F := ⟨c_slices_partialInsertionSortOrdered_int, [.t 6], some []⟩
theorem h_slices_partialInsertionSortOrdered_int : compF Try.prog (compAny Try.prog) n_slices_partialInsertionSortOrdered_int = some (f_slices_partialInsertionSortOrdered_int.body, f_slices_partialInsertionSortOrdered_int.res) := by kernel_rfl
end Go.Proofs.Ytjobkhnanbkcjaa.Cd

/- The code of the functions that are reached, as the interpreter reads it. -/
set_option maxRecDepth 100000
set_option linter.defProp false
namespace Go.Proofs.Ytjobkhnanbkcjaa.Cd
open Go Go.Dx
/- cmp.Less[int] -/
def c0_cmp_Less_int : C :=
 .seq (.ops [⟨some 5, none, .mov (.t 0)⟩,
  ⟨some 6, none, .call n_cmp_isNaN_int [(.t 5)]⟩,
  ⟨some 7, none, .mov (.t 6)⟩,
  ⟨some 8, some (7, true), .mov (.t 1)⟩,
  ⟨some 9, some (7, true), .call n_cmp_isNaN_int [(.t 8)]⟩,
  ⟨some 10, some (7, true), .un .not (.t 9)⟩,
  ⟨some 11, none, .pick (.t 7) (.t 10) (.c (.bool false))⟩,
  ⟨some 12, none, .mov (.t 11)⟩,
  ⟨some 13, some (12, false), .mov (.t 0)⟩,
  ⟨some 14, some (12, false), .mov (.t 1)⟩,
  ⟨some 15, some (12, false), .bin .lss (.t 13) (.t 14)⟩,
  ⟨some 16, none, .pick (.t 12) (.c (.bool true)) (.t 15)⟩,
  ⟨some 4, none, .mov (.t 16)⟩])
  (.ret)
def c_cmp_Less_int : C :=
 .seq (.ops [⟨some 4, none, .mov (.c (.bool false))⟩])
  (c0_cmp_Less_int)
def f_cmp_Less_int : F := ⟨c_cmp_Less_int, [.t 4], some []⟩
theorem h_cmp_Less_int : compF Try.prog (compAny Try.prog) n_cmp_Less_int = some (f_cmp_Less_int.body, f_cmp_Less_int.res) := by kernel_rfl
/- slices.partitionEqualOrdered[int] -/
def c0_slices_partitionEqualOrdered_int : C :=
 .seq (.seq (.any 0 [.op 0 ⟨some 29, none, .mov (.t 9)⟩,
  .op 1 ⟨some 30, none, .mov (.t 10)⟩,
  .op 2 ⟨some 31, none, .bin .leq (.t 29) (.t 30)⟩,
  .op 3 ⟨some 32, none, .mov (.t 31)⟩,
  .op 4 ⟨some 33, some (32, true), .mov (.t 0)⟩,
  .op 5 ⟨some 34, some (32, true), .mov (.t 1)⟩,
  .op 6 ⟨some 35, some (32, true), .ia 1 (.t 33) (.t 34)⟩,
  .op 7 ⟨some 36, some (32, true), .ld (.t 35)⟩,
  .op 8 ⟨some 37, some (32, true), .mov (.t 0)⟩,
  .op 9 ⟨some 38, some (32, true), .mov (.t 9)⟩,
  .op 10 ⟨some 39, some (32, true), .ia 1 (.t 37) (.t 38)⟩,
  .op 11 ⟨some 40, some (32, true), .ld (.t 39)⟩,
  .op 12 ⟨some 41, some (32, true), .call n_cmp_Less_int [(.t 36), (.t 40)]⟩,
  .op 13 ⟨some 42, some (32, true), .un .not (.t 41)⟩,
  .op 14 ⟨some 43, none, .pick (.t 32) (.t 42) (.c (.bool false))⟩])
  (.cond (.t 43)
  (.skip)
  (.exit 2)))
  (.block 3
  (.ops [⟨some 44, none, .mov (.t 9)⟩,
  ⟨some 45, none, .bin .add (.t 44) (.c (.int .i64 1))⟩,
  ⟨some 9, none, .mov (.t 45)⟩]))
def c1_slices_partitionEqualOrdered_int : C :=
 .seq (.seq (.any 0 [.op 0 ⟨some 46, none, .mov (.t 9)⟩,
  .op 1 ⟨some 47, none, .mov (.t 10)⟩,
  .op 2 ⟨some 48, none, .bin .leq (.t 46) (.t 47)⟩,
  .op 3 ⟨some 49, none, .mov (.t 48)⟩,
  .op 4 ⟨some 50, some (49, true), .mov (.t 0)⟩,
  .op 5 ⟨some 51, some (49, true), .mov (.t 1)⟩,
  .op 6 ⟨some 52, some (49, true), .ia 1 (.t 50) (.t 51)⟩,
  .op 7 ⟨some 53, some (49, true), .ld (.t 52)⟩,
  .op 8 ⟨some 54, some (49, true), .mov (.t 0)⟩,
  .op 9 ⟨some 55, some (49, true), .mov (.t 10)⟩,
  .op 10 ⟨some 56, some (49, true), .ia 1 (.t 54) (.t 55)⟩,
  .op 11 ⟨some 57, some (49, true), .ld (.t 56)⟩,
  .op 12 ⟨some 58, some (49, true), .call n_cmp_Less_int [(.t 53), (.t 57)]⟩,
  .op 13 ⟨some 59, none, .pick (.t 49) (.t 58) (.c (.bool false))⟩])
  (.cond (.t 59)
  (.skip)
  (.exit 4)))
  (.block 5
  (.ops [⟨some 60, none, .mov (.t 10)⟩,
  ⟨some 61, none, .bin .sub (.t 60) (.c (.int .i64 1))⟩,
  ⟨some 10, none, .mov (.t 61)⟩]))
def c2_slices_partitionEqualOrdered_int : C :=
 .seq (.any 0 [.op 4 ⟨some 69, none, .mov (.t 0)⟩,
  .op 5 ⟨some 70, none, .mov (.t 10)⟩,
  .op 6 ⟨some 71, none, .ia 1 (.t 69) (.t 70)⟩,
  .op 7 ⟨some 72, none, .ld (.t 71)⟩,
  .op 8 ⟨some 73, none, .mov (.t 0)⟩,
  .op 9 ⟨some 74, none, .mov (.t 9)⟩,
  .op 10 ⟨some 75, none, .ia 1 (.t 73) (.t 74)⟩,
  .op 11 ⟨some 76, none, .ld (.t 75)⟩,
  .op 0 ⟨some 65, none, .mov (.t 0)⟩,
  .op 1 ⟨some 66, none, .mov (.t 9)⟩,
  .op 12 ⟨some 77, none, .ia 1 (.t 65) (.t 66)⟩,
  .op 13 ⟨none, none, .st (.t 77) (.t 72)⟩,
  .op 2 ⟨some 67, none, .mov (.t 0)⟩,
  .op 3 ⟨some 68, none, .mov (.t 10)⟩,
  .op 14 ⟨some 78, none, .ia 1 (.t 67) (.t 68)⟩,
  .op 15 ⟨none, none, .st (.t 78) (.t 76)⟩])
  (.seq (.ops [⟨some 79, none, .mov (.t 9)⟩,
  ⟨some 80, none, .bin .add (.t 79) (.c (.int .i64 1))⟩,
  ⟨some 9, none, .mov (.t 80)⟩])
  (.ops [⟨some 81, none, .mov (.t 10)⟩,
  ⟨some 82, none, .bin .sub (.t 81) (.c (.int .i64 1))⟩,
  ⟨some 10, none, .mov (.t 82)⟩]))
def c3_slices_partitionEqualOrdered_int : C :=
 .block 1
  (.seq (.block 2
  (.loop c0_slices_partitionEqualOrdered_int))
  (.seq (.block 4
  (.loop c1_slices_partitionEqualOrdered_int))
  (.seq (.seq (.ops [⟨some 62, none, .mov (.t 9)⟩,
  ⟨some 63, none, .mov (.t 10)⟩,
  ⟨some 64, none, .bin .gtr (.t 62) (.t 63)⟩])
  (.cond (.t 64)
  (.exit 0)
  (.skip)))
  (c2_slices_partitionEqualOrdered_int))))
def c4_slices_partitionEqualOrdered_int : C :=
 .seq (.ops [⟨some 25, none, .mov (.t 1)⟩,
  ⟨some 26, none, .bin .add (.t 25) (.c (.int .i64 1))⟩,
  ⟨some 27, none, .mov (.t 2)⟩,
  ⟨some 28, none, .bin .sub (.t 27) (.c (.int .i64 1))⟩,
  ⟨some 9, none, .mov (.t 26)⟩,
  ⟨some 10, none, .mov (.t 28)⟩])
  (.seq (.block 0
  (.loop c3_slices_partitionEqualOrdered_int))
  (.seq (.ops [⟨some 83, none, .mov (.t 9)⟩,
  ⟨some 8, none, .mov (.t 83)⟩])
  (.ret)))
def c5_slices_partitionEqualOrdered_int : C :=
 .seq (.any 0 [.op 4 ⟨some 15, none, .mov (.t 0)⟩,
  .op 5 ⟨some 16, none, .mov (.t 3)⟩,
  .op 6 ⟨some 17, none, .ia 1 (.t 15) (.t 16)⟩,
  .op 7 ⟨some 18, none, .ld (.t 17)⟩,
  .op 8 ⟨some 19, none, .mov (.t 0)⟩,
  .op 9 ⟨some 20, none, .mov (.t 1)⟩,
  .op 10 ⟨some 21, none, .ia 1 (.t 19) (.t 20)⟩,
  .op 11 ⟨some 22, none, .ld (.t 21)⟩,
  .op 0 ⟨some 11, none, .mov (.t 0)⟩,
  .op 1 ⟨some 12, none, .mov (.t 1)⟩,
  .op 12 ⟨some 23, none, .ia 1 (.t 11) (.t 12)⟩,
  .op 13 ⟨none, none, .st (.t 23) (.t 18)⟩,
  .op 2 ⟨some 13, none, .mov (.t 0)⟩,
  .op 3 ⟨some 14, none, .mov (.t 3)⟩,
  .op 14 ⟨some 24, none, .ia 1 (.t 13) (.t 14)⟩,
  .op 15 ⟨none, none, .st (.t 24) (.t 22)⟩])
  (c4_slices_partitionEqualOrdered_int)
def c_slices_partitionEqualOrdered_int : C :=
 .seq (.ops [⟨some 8, none, .mov (.c (.int .i64 0))⟩])
  (c5_slices_partitionEqualOrdered_int)
def f_slices_partitionEqualOrdered_int : F := ⟨c_slices_partitionEqualOrdered_int, [.t 8], some []⟩
theorem h_slices_partitionEqualOrdered_int : compF Try.prog (compAny Try.prog) n_slices_partitionEqualOrdered_int = some (f_slices_partitionEqualOrdered_int.body, f_slices_partitionEqualOrdered_int.res) := by kernel_rfl
/- slices.partitionOrdered[int] -/
def c0_slices_partitionOrdered_int : C :=
 .seq (.seq (.any 0 [.op 0 ⟨some 30, none, .mov (.t 10)⟩,
  .op 1 ⟨some 31, none, .mov (.t 11)⟩,
  .op 2 ⟨some 32, none, .bin .leq (.t 30) (.t 31)⟩,
  .op 3 ⟨some 33, none, .mov (.t 32)⟩,
  .op 4 ⟨some 34, some (33, true), .mov (.t 0)⟩,
  .op 5 ⟨some 35, some (33, true), .mov (.t 10)⟩,
  .op 6 ⟨some 36, some (33, true), .ia 1 (.t 34) (.t 35)⟩,
  .op 7 ⟨some 37, some (33, true), .ld (.t 36)⟩,
  .op 8 ⟨some 38, some (33, true), .mov (.t 0)⟩,
  .op 9 ⟨some 39, some (33, true), .mov (.t 1)⟩,
  .op 10 ⟨some 40, some (33, true), .ia 1 (.t 38) (.t 39)⟩,
  .op 11 ⟨some 41, some (33, true), .ld (.t 40)⟩,
  .op 12 ⟨some 42, some (33, true), .call n_cmp_Less_int [(.t 37), (.t 41)]⟩,
  .op 13 ⟨some 43, none, .pick (.t 33) (.t 42) (.c (.bool false))⟩])
  (.cond (.t 43)
  (.skip)
  (.exit 0)))
  (.block 1
  (.ops [⟨some 44, none, .mov (.t 10)⟩,
  ⟨some 45, none, .bin .add (.t 44) (.c (.int .i64 1))⟩,
  ⟨some 10, none, .mov (.t 45)⟩]))
def c1_slices_partitionOrdered_int : C :=
 .seq (.seq (.any 0 [.op 0 ⟨some 46, none, .mov (.t 10)⟩,
  .op 1 ⟨some 47, none, .mov (.t 11)⟩,
  .op 2 ⟨some 48, none, .bin .leq (.t 46) (.t 47)⟩,
  .op 3 ⟨some 49, none, .mov (.t 48)⟩,
  .op 4 ⟨some 50, some (49, true), .mov (.t 0)⟩,
  .op 5 ⟨some 51, some (49, true), .mov (.t 11)⟩,
  .op 6 ⟨some 52, some (49, true), .ia 1 (.t 50) (.t 51)⟩,
  .op 7 ⟨some 53, some (49, true), .ld (.t 52)⟩,
  .op 8 ⟨some 54, some (49, true), .mov (.t 0)⟩,
  .op 9 ⟨some 55, some (49, true), .mov (.t 1)⟩,
  .op 10 ⟨some 56, some (49, true), .ia 1 (.t 54) (.t 55)⟩,
  .op 11 ⟨some 57, some (49, true), .ld (.t 56)⟩,
  .op 12 ⟨some 58, some (49, true), .call n_cmp_Less_int [(.t 53), (.t 57)]⟩,
  .op 13 ⟨some 59, some (49, true), .un .not (.t 58)⟩,
  .op 14 ⟨some 60, none, .pick (.t 49) (.t 59) (.c (.bool false))⟩])
  (.cond (.t 60)
  (.skip)
  (.exit 2)))
  (.block 3
  (.ops [⟨some 61, none, .mov (.t 11)⟩,
  ⟨some 62, none, .bin .sub (.t 61) (.c (.int .i64 1))⟩,
  ⟨some 11, none, .mov (.t 62)⟩]))
def c2_slices_partitionOrdered_int : C :=
 .seq (.any 0 [.op 4 ⟨some 70, none, .mov (.t 0)⟩,
  .op 5 ⟨some 71, none, .mov (.t 1)⟩,
  .op 6 ⟨some 72, none, .ia 1 (.t 70) (.t 71)⟩,
  .op 7 ⟨some 73, none, .ld (.t 72)⟩,
  .op 8 ⟨some 74, none, .mov (.t 0)⟩,
  .op 9 ⟨some 75, none, .mov (.t 11)⟩,
  .op 10 ⟨some 76, none, .ia 1 (.t 74) (.t 75)⟩,
  .op 11 ⟨some 77, none, .ld (.t 76)⟩,
  .op 0 ⟨some 66, none, .mov (.t 0)⟩,
  .op 1 ⟨some 67, none, .mov (.t 11)⟩,
  .op 12 ⟨some 78, none, .ia 1 (.t 66) (.t 67)⟩,
  .op 13 ⟨none, none, .st (.t 78) (.t 73)⟩,
  .op 2 ⟨some 68, none, .mov (.t 0)⟩,
  .op 3 ⟨some 69, none, .mov (.t 1)⟩,
  .op 14 ⟨some 79, none, .ia 1 (.t 68) (.t 69)⟩,
  .op 15 ⟨none, none, .st (.t 79) (.t 77)⟩])
  (.seq (.ops [⟨some 80, none, .mov (.t 11)⟩,
  ⟨some 8, none, .mov (.t 80)⟩,
  ⟨some 9, none, .mov (.c (.bool true))⟩])
  (.ret))
def c3_slices_partitionOrdered_int : C :=
 .seq (.seq (.any 0 [.op 0 ⟨some 99, none, .mov (.t 10)⟩,
  .op 1 ⟨some 100, none, .mov (.t 11)⟩,
  .op 2 ⟨some 101, none, .bin .leq (.t 99) (.t 100)⟩,
  .op 3 ⟨some 102, none, .mov (.t 101)⟩,
  .op 4 ⟨some 103, some (102, true), .mov (.t 0)⟩,
  .op 5 ⟨some 104, some (102, true), .mov (.t 10)⟩,
  .op 6 ⟨some 105, some (102, true), .ia 1 (.t 103) (.t 104)⟩,
  .op 7 ⟨some 106, some (102, true), .ld (.t 105)⟩,
  .op 8 ⟨some 107, some (102, true), .mov (.t 0)⟩,
  .op 9 ⟨some 108, some (102, true), .mov (.t 1)⟩,
  .op 10 ⟨some 109, some (102, true), .ia 1 (.t 107) (.t 108)⟩,
  .op 11 ⟨some 110, some (102, true), .ld (.t 109)⟩,
  .op 12 ⟨some 111, some (102, true), .call n_cmp_Less_int [(.t 106), (.t 110)]⟩,
  .op 13 ⟨some 112, none, .pick (.t 102) (.t 111) (.c (.bool false))⟩])
  (.cond (.t 112)
  (.skip)
  (.exit 6)))
  (.block 7
  (.ops [⟨some 113, none, .mov (.t 10)⟩,
  ⟨some 114, none, .bin .add (.t 113) (.c (.int .i64 1))⟩,
  ⟨some 10, none, .mov (.t 114)⟩]))
def c4_slices_partitionOrdered_int : C :=
 .seq (.seq (.any 0 [.op 0 ⟨some 115, none, .mov (.t 10)⟩,
  .op 1 ⟨some 116, none, .mov (.t 11)⟩,
  .op 2 ⟨some 117, none, .bin .leq (.t 115) (.t 116)⟩,
  .op 3 ⟨some 118, none, .mov (.t 117)⟩,
  .op 4 ⟨some 119, some (118, true), .mov (.t 0)⟩,
  .op 5 ⟨some 120, some (118, true), .mov (.t 11)⟩,
  .op 6 ⟨some 121, some (118, true), .ia 1 (.t 119) (.t 120)⟩,
  .op 7 ⟨some 122, some (118, true), .ld (.t 121)⟩,
  .op 8 ⟨some 123, some (118, true), .mov (.t 0)⟩,
  .op 9 ⟨some 124, some (118, true), .mov (.t 1)⟩,
  .op 10 ⟨some 125, some (118, true), .ia 1 (.t 123) (.t 124)⟩,
  .op 11 ⟨some 126, some (118, true), .ld (.t 125)⟩,
  .op 12 ⟨some 127, some (118, true), .call n_cmp_Less_int [(.t 122), (.t 126)]⟩,
  .op 13 ⟨some 128, some (118, true), .un .not (.t 127)⟩,
  .op 14 ⟨some 129, none, .pick (.t 118) (.t 128) (.c (.bool false))⟩])
  (.cond (.t 129)
  (.skip)
  (.exit 8)))
  (.block 9
  (.ops [⟨some 130, none, .mov (.t 11)⟩,
  ⟨some 131, none, .bin .sub (.t 130) (.c (.int .i64 1))⟩,
  ⟨some 11, none, .mov (.t 131)⟩]))
def c5_slices_partitionOrdered_int : C :=
 .seq (.any 0 [.op 4 ⟨some 139, none, .mov (.t 0)⟩,
  .op 5 ⟨some 140, none, .mov (.t 11)⟩,
  .op 6 ⟨some 141, none, .ia 1 (.t 139) (.t 140)⟩,
  .op 7 ⟨some 142, none, .ld (.t 141)⟩,
  .op 8 ⟨some 143, none, .mov (.t 0)⟩,
  .op 9 ⟨some 144, none, .mov (.t 10)⟩,
  .op 10 ⟨some 145, none, .ia 1 (.t 143) (.t 144)⟩,
  .op 11 ⟨some 146, none, .ld (.t 145)⟩,
  .op 0 ⟨some 135, none, .mov (.t 0)⟩,
  .op 1 ⟨some 136, none, .mov (.t 10)⟩,
  .op 12 ⟨some 147, none, .ia 1 (.t 135) (.t 136)⟩,
  .op 13 ⟨none, none, .st (.t 147) (.t 142)⟩,
  .op 2 ⟨some 137, none, .mov (.t 0)⟩,
  .op 3 ⟨some 138, none, .mov (.t 11)⟩,
  .op 14 ⟨some 148, none, .ia 1 (.t 137) (.t 138)⟩,
  .op 15 ⟨none, none, .st (.t 148) (.t 146)⟩])
  (.seq (.ops [⟨some 149, none, .mov (.t 10)⟩,
  ⟨some 150, none, .bin .add (.t 149) (.c (.int .i64 1))⟩,
  ⟨some 10, none, .mov (.t 150)⟩])
  (.ops [⟨some 151, none, .mov (.t 11)⟩,
  ⟨some 152, none, .bin .sub (.t 151) (.c (.int .i64 1))⟩,
  ⟨some 11, none, .mov (.t 152)⟩]))
def c6_slices_partitionOrdered_int : C :=
 .block 5
  (.seq (.block 6
  (.loop c3_slices_partitionOrdered_int))
  (.seq (.block 8
  (.loop c4_slices_partitionOrdered_int))
  (.seq (.seq (.ops [⟨some 132, none, .mov (.t 10)⟩,
  ⟨some 133, none, .mov (.t 11)⟩,
  ⟨some 134, none, .bin .gtr (.t 132) (.t 133)⟩])
  (.cond (.t 134)
  (.exit 4)
  (.skip)))
  (c5_slices_partitionOrdered_int))))
def c7_slices_partitionOrdered_int : C :=
 .seq (.any 0 [.op 4 ⟨some 157, none, .mov (.t 0)⟩,
  .op 5 ⟨some 158, none, .mov (.t 1)⟩,
  .op 6 ⟨some 159, none, .ia 1 (.t 157) (.t 158)⟩,
  .op 7 ⟨some 160, none, .ld (.t 159)⟩,
  .op 8 ⟨some 161, none, .mov (.t 0)⟩,
  .op 9 ⟨some 162, none, .mov (.t 11)⟩,
  .op 10 ⟨some 163, none, .ia 1 (.t 161) (.t 162)⟩,
  .op 11 ⟨some 164, none, .ld (.t 163)⟩,
  .op 0 ⟨some 153, none, .mov (.t 0)⟩,
  .op 1 ⟨some 154, none, .mov (.t 11)⟩,
  .op 12 ⟨some 165, none, .ia 1 (.t 153) (.t 154)⟩,
  .op 13 ⟨none, none, .st (.t 165) (.t 160)⟩,
  .op 2 ⟨some 155, none, .mov (.t 0)⟩,
  .op 3 ⟨some 156, none, .mov (.t 1)⟩,
  .op 14 ⟨some 166, none, .ia 1 (.t 155) (.t 156)⟩,
  .op 15 ⟨none, none, .st (.t 166) (.t 164)⟩])
  (.seq (.ops [⟨some 167, none, .mov (.t 11)⟩,
  ⟨some 8, none, .mov (.t 167)⟩,
  ⟨some 9, none, .mov (.c (.bool false))⟩])
  (.ret))
def c8_slices_partitionOrdered_int : C :=
 .seq (.ops [⟨some 95, none, .mov (.t 10)⟩,
  ⟨some 96, none, .bin .add (.t 95) (.c (.int .i64 1))⟩,
  ⟨some 10, none, .mov (.t 96)⟩])
  (.seq (.ops [⟨some 97, none, .mov (.t 11)⟩,
  ⟨some 98, none, .bin .sub (.t 97) (.c (.int .i64 1))⟩,
  ⟨some 11, none, .mov (.t 98)⟩])
  (.seq (.block 4
  (.loop c6_slices_partitionOrdered_int))
  (c7_slices_partitionOrdered_int)))
def c9_slices_partitionOrdered_int : C :=
 .seq (.any 0 [.op 4 ⟨some 85, none, .mov (.t 0)⟩,
  .op 5 ⟨some 86, none, .mov (.t 11)⟩,
  .op 6 ⟨some 87, none, .ia 1 (.t 85) (.t 86)⟩,
  .op 7 ⟨some 88, none, .ld (.t 87)⟩,
  .op 8 ⟨some 89, none, .mov (.t 0)⟩,
  .op 9 ⟨some 90, none, .mov (.t 10)⟩,
  .op 10 ⟨some 91, none, .ia 1 (.t 89) (.t 90)⟩,
  .op 11 ⟨some 92, none, .ld (.t 91)⟩,
  .op 0 ⟨some 81, none, .mov (.t 0)⟩,
  .op 1 ⟨some 82, none, .mov (.t 10)⟩,
  .op 12 ⟨some 93, none, .ia 1 (.t 81) (.t 82)⟩,
  .op 13 ⟨none, none, .st (.t 93) (.t 88)⟩,
  .op 2 ⟨some 83, none, .mov (.t 0)⟩,
  .op 3 ⟨some 84, none, .mov (.t 11)⟩,
  .op 14 ⟨some 94, none, .ia 1 (.t 83) (.t 84)⟩,
  .op 15 ⟨none, none, .st (.t 94) (.t 92)⟩])
  (c8_slices_partitionOrdered_int)
def c10_slices_partitionOrdered_int : C :=
 .seq (.ops [⟨some 26, none, .mov (.t 1)⟩,
  ⟨some 27, none, .bin .add (.t 26) (.c (.int .i64 1))⟩,
  ⟨some 28, none, .mov (.t 2)⟩,
  ⟨some 29, none, .bin .sub (.t 28) (.c (.int .i64 1))⟩,
  ⟨some 10, none, .mov (.t 27)⟩,
  ⟨some 11, none, .mov (.t 29)⟩])
  (.seq (.block 0
  (.loop c0_slices_partitionOrdered_int))
  (.seq (.block 2
  (.loop c1_slices_partitionOrdered_int))
  (.seq (.seq (.ops [⟨some 63, none, .mov (.t 10)⟩,
  ⟨some 64, none, .mov (.t 11)⟩,
  ⟨some 65, none, .bin .gtr (.t 63) (.t 64)⟩])
  (.cond (.t 65)
  (c2_slices_partitionOrdered_int)
  (.skip)))
  (c9_slices_partitionOrdered_int))))
def c11_slices_partitionOrdered_int : C :=
 .seq (.any 0 [.op 4 ⟨some 16, none, .mov (.t 0)⟩,
  .op 5 ⟨some 17, none, .mov (.t 3)⟩,
  .op 6 ⟨some 18, none, .ia 1 (.t 16) (.t 17)⟩,
  .op 7 ⟨some 19, none, .ld (.t 18)⟩,
  .op 8 ⟨some 20, none, .mov (.t 0)⟩,
  .op 9 ⟨some 21, none, .mov (.t 1)⟩,
  .op 10 ⟨some 22, none, .ia 1 (.t 20) (.t 21)⟩,
  .op 11 ⟨some 23, none, .ld (.t 22)⟩,
  .op 0 ⟨some 12, none, .mov (.t 0)⟩,
  .op 1 ⟨some 13, none, .mov (.t 1)⟩,
  .op 12 ⟨some 24, none, .ia 1 (.t 12) (.t 13)⟩,
  .op 13 ⟨none, none, .st (.t 24) (.t 19)⟩,
  .op 2 ⟨some 14, none, .mov (.t 0)⟩,
  .op 3 ⟨some 15, none, .mov (.t 3)⟩,
  .op 14 ⟨some 25, none, .ia 1 (.t 14) (.t 15)⟩,
  .op 15 ⟨none, none, .st (.t 25) (.t 23)⟩])
  (c10_slices_partitionOrdered_int)
def c_slices_partitionOrdered_int : C :=
 .seq (.ops [⟨some 8, none, .mov (.c (.int .i64 0))⟩,
  ⟨some 9, none, .mov (.c (.bool false))⟩])
  (c11_slices_partitionOrdered_int)
def f_slices_partitionOrdered_int : F := ⟨c_slices_partitionOrdered_int, [.t 8, .t 9], some []⟩
theorem h_slices_partitionOrdered_int : compF Try.prog (compAny Try.prog) n_slices_partitionOrdered_int = some (f_slices_partitionOrdered_int.body, f_slices_partitionOrdered_int.res) := by kernel_rfl
/- math/bits.Len32 -/
def c0_math_bits_Len32 : C :=
 .seq (.ops [⟨some 13, none, .mov (.t 2)⟩,
  ⟨some 14, none, .mov (.t 0)⟩,
  ⟨some 15, none, .conv .u8 (.t 14)⟩,
  ⟨some 16, none, .ixs (.c (.string ⟨#[0, 1, 2, 2, 3, 3, 3, 3, 4, 4, 4, 4, 4, 4, 4, 4, 5, 5, 5, 5, 5, 5, 5, 5, 5, 5, 5, 5, 5, 5, 5, 5, 6, 6, 6, 6, 6, 6, 6, 6, 6, 6, 6, 6, 6, 6, 6, 6, 6, 6, 6, 6, 6, 6, 6, 6, 6, 6, 6, 6, 6, 6, 6, 6, 7, 7, 7, 7, 7, 7, 7, 7, 7, 7, 7, 7, 7, 7, 7, 7, 7, 7, 7, 7, 7, 7, 7, 7, 7, 7, 7, 7, 7, 7, 7, 7, 7, 7, 7, 7, 7, 7, 7, 7, 7, 7, 7, 7, 7, 7, 7, 7, 7, 7, 7, 7, 7, 7, 7, 7, 7, 7, 7, 7, 7, 7, 7, 7, 8, 8, 8, 8, 8, 8, 8, 8, 8, 8, 8, 8, 8, 8, 8, 8, 8, 8, 8, 8, 8, 8, 8, 8, 8, 8, 8, 8, 8, 8, 8, 8, 8, 8, 8, 8, 8, 8, 8, 8, 8, 8, 8, 8, 8, 8, 8, 8, 8, 8, 8, 8, 8, 8, 8, 8, 8, 8, 8, 8, 8, 8, 8, 8, 8, 8, 8, 8, 8, 8, 8, 8, 8, 8, 8, 8, 8, 8, 8, 8, 8, 8, 8, 8, 8, 8, 8, 8, 8, 8, 8, 8, 8, 8, 8, 8, 8, 8, 8, 8, 8, 8, 8, 8, 8, 8, 8, 8, 8, 8, 8, 8, 8, 8, 8, 8, 8, 8, 8, 8, 8, 8, 8, 8, 8, 8, 8, 8]⟩)) (.t 15)⟩,
  ⟨some 17, none, .conv .i64 (.t 16)⟩,
  ⟨some 18, none, .bin .add (.t 13) (.t 17)⟩,
  ⟨some 2, none, .mov (.t 18)⟩])
  (.ret)
def c1_math_bits_Len32 : C :=
 .seq (.seq (.ops [⟨some 7, none, .mov (.t 0)⟩,
  ⟨some 8, none, .bin .geq (.t 7) (.c (.int .u32 256))⟩])
  (.cond (.t 8)
  (.seq (.ops [⟨some 9, none, .mov (.t 0)⟩,
  ⟨some 10, none, .bin .shr (.t 9) (.c (.int .u64 8))⟩,
  ⟨some 0, none, .mov (.t 10)⟩])
  (.ops [⟨some 11, none, .mov (.t 2)⟩,
  ⟨some 12, none, .bin .add (.t 11) (.c (.int .i64 8))⟩,
  ⟨some 2, none, .mov (.t 12)⟩]))
  (.skip)))
  (c0_math_bits_Len32)
def c2_math_bits_Len32 : C :=
 .seq (.seq (.ops [⟨some 3, none, .mov (.t 0)⟩,
  ⟨some 4, none, .bin .geq (.t 3) (.c (.int .u32 65536))⟩])
  (.cond (.t 4)
  (.seq (.ops [⟨some 5, none, .mov (.t 0)⟩,
  ⟨some 6, none, .bin .shr (.t 5) (.c (.int .u64 16))⟩,
  ⟨some 0, none, .mov (.t 6)⟩])
  (.ops [⟨some 2, none, .mov (.c (.int .i64 16))⟩]))
  (.skip)))
  (c1_math_bits_Len32)
def c_math_bits_Len32 : C :=
 .seq (.ops [⟨some 2, none, .mov (.c (.int .i64 0))⟩])
  (c2_math_bits_Len32)
def f_math_bits_Len32 : F := ⟨c_math_bits_Len32, [.t 2], some []⟩
theorem h_math_bits_Len32 : compF Try.prog (compAny Try.prog) n_math_bits_Len32 = some (f_math_bits_Len32.body, f_math_bits_Len32.res) := by kernel_rfl
/- math/bits.Len64 -/
def c0_math_bits_Len64 : C :=
 .seq (.ops [⟨some 19, none, .mov (.t 2)⟩,
  ⟨some 20, none, .mov (.t 0)⟩,
  ⟨some 21, none, .conv .u8 (.t 20)⟩,
  ⟨some 22, none, .ixs (.c (.string ⟨#[0, 1, 2, 2, 3, 3, 3, 3, 4, 4, 4, 4, 4, 4, 4, 4, 5, 5, 5, 5, 5, 5, 5, 5, 5, 5, 5, 5, 5, 5, 5, 5, 6, 6, 6, 6, 6, 6, 6, 6, 6, 6, 6, 6, 6, 6, 6, 6, 6, 6, 6, 6, 6, 6, 6, 6, 6, 6, 6, 6, 6, 6, 6, 6, 7, 7, 7, 7, 7, 7, 7, 7, 7, 7, 7, 7, 7, 7, 7, 7, 7, 7, 7, 7, 7, 7, 7, 7, 7, 7, 7, 7, 7, 7, 7, 7, 7, 7, 7, 7, 7, 7, 7, 7, 7, 7, 7, 7, 7, 7, 7, 7, 7, 7, 7, 7, 7, 7, 7, 7, 7, 7, 7, 7, 7, 7, 7, 7, 8, 8, 8, 8, 8, 8, 8, 8, 8, 8, 8, 8, 8, 8, 8, 8, 8, 8, 8, 8, 8, 8, 8, 8, 8, 8, 8, 8, 8, 8, 8, 8, 8, 8, 8, 8, 8, 8, 8, 8, 8, 8, 8, 8, 8, 8, 8, 8, 8, 8, 8, 8, 8, 8, 8, 8, 8, 8, 8, 8, 8, 8, 8, 8, 8, 8, 8, 8, 8, 8, 8, 8, 8, 8, 8, 8, 8, 8, 8, 8, 8, 8, 8, 8, 8, 8, 8, 8, 8, 8, 8, 8, 8, 8, 8, 8, 8, 8, 8, 8, 8, 8, 8, 8, 8, 8, 8, 8, 8, 8, 8, 8, 8, 8, 8, 8, 8, 8, 8, 8, 8, 8, 8, 8, 8, 8, 8, 8]⟩)) (.t 21)⟩,
  ⟨some 23, none, .conv .i64 (.t 22)⟩,
  ⟨some 24, none, .bin .add (.t 19) (.t 23)⟩,
  ⟨some 2, none, .mov (.t 24)⟩])
  (.ret)
def c1_math_bits_Len64 : C :=
 .seq (.seq (.ops [⟨some 13, none, .mov (.t 0)⟩,
  ⟨some 14, none, .bin .geq (.t 13) (.c (.int .u64 256))⟩])
  (.cond (.t 14)
  (.seq (.ops [⟨some 15, none, .mov (.t 0)⟩,
  ⟨some 16, none, .bin .shr (.t 15) (.c (.int .u64 8))⟩,
  ⟨some 0, none, .mov (.t 16)⟩])
  (.ops [⟨some 17, none, .mov (.t 2)⟩,
  ⟨some 18, none, .bin .add (.t 17) (.c (.int .i64 8))⟩,
  ⟨some 2, none, .mov (.t 18)⟩]))
  (.skip)))
  (c0_math_bits_Len64)
def c2_math_bits_Len64 : C :=
 .seq (.seq (.ops [⟨some 7, none, .mov (.t 0)⟩,
  ⟨some 8, none, .bin .geq (.t 7) (.c (.int .u64 65536))⟩])
  (.cond (.t 8)
  (.seq (.ops [⟨some 9, none, .mov (.t 0)⟩,
  ⟨some 10, none, .bin .shr (.t 9) (.c (.int .u64 16))⟩,
  ⟨some 0, none, .mov (.t 10)⟩])
  (.ops [⟨some 11, none, .mov (.t 2)⟩,
  ⟨some 12, none, .bin .add (.t 11) (.c (.int .i64 16))⟩,
  ⟨some 2, none, .mov (.t 12)⟩]))
  (.skip)))
  (c1_math_bits_Len64)
def c3_math_bits_Len64 : C :=
 .seq (.seq (.ops [⟨some 3, none, .mov (.t 0)⟩,
  ⟨some 4, none, .bin .geq (.t 3) (.c (.int .u64 4294967296))⟩])
  (.cond (.t 4)
  (.seq (.ops [⟨some 5, none, .mov (.t 0)⟩,
  ⟨some 6, none, .bin .shr (.t 5) (.c (.int .u64 32))⟩,
  ⟨some 0, none, .mov (.t 6)⟩])
  (.ops [⟨some 2, none, .mov (.c (.int .i64 32))⟩]))
  (.skip)))
  (c2_math_bits_Len64)
def c_math_bits_Len64 : C :=
 .seq (.ops [⟨some 2, none, .mov (.c (.int .i64 0))⟩])
  (c3_math_bits_Len64)
def f_math_bits_Len64 : F := ⟨c_math_bits_Len64, [.t 2], some []⟩
theorem h_math_bits_Len64 : compF Try.prog (compAny Try.prog) n_math_bits_Len64 = some (f_math_bits_Len64.body, f_math_bits_Len64.res) := by kernel_rfl
/- math/bits.LeadingZeros32 -/
def c_math_bits_LeadingZeros32 : C :=
 .seq (.ops [⟨some 2, none, .mov (.c (.int .i64 0))⟩])
  (.seq (.ops [⟨some 3, none, .mov (.t 0)⟩,
  ⟨some 4, none, .call n_math_bits_Len32 [(.t 3)]⟩,
  ⟨some 5, none, .bin .sub (.c (.int .i64 32)) (.t 4)⟩,
  ⟨some 2, none, .mov (.t 5)⟩])
  (.ret))
def f_math_bits_LeadingZeros32 : F := ⟨c_math_bits_LeadingZeros32, [.t 2], some []⟩
theorem h_math_bits_LeadingZeros32 : compF Try.prog (compAny Try.prog) n_math_bits_LeadingZeros32 = some (f_math_bits_LeadingZeros32.body, f_math_bits_LeadingZeros32.res) := by kernel_rfl
/- pianola/pianolaref1.wide -/
def c0_pianolaref1_wide : C :=
 .seq (.seq (.ops [⟨some 5, none, .mov (.t 1)⟩,
  ⟨some 6, none, .mov (.t 5)⟩,
  ⟨some 7, some (6, true), .mov (.t 0)⟩,
  ⟨some 8, some (6, true), .bin .geq (.t 7) (.c (.int .u32 2147483648))⟩,
  ⟨some 9, none, .pick (.t 6) (.t 8) (.c (.bool false))⟩])
  (.cond (.t 9)
  (.seq (.ops [⟨some 10, none, .mov (.t 0)⟩,
  ⟨some 11, none, .conv .i64 (.t 10)⟩,
  ⟨some 12, none, .bin .sub (.t 11) (.c (.int .i64 4294967296))⟩,
  ⟨some 4, none, .mov (.t 12)⟩])
  (.ret))
  (.skip)))
  (.seq (.ops [⟨some 13, none, .mov (.t 0)⟩,
  ⟨some 14, none, .conv .i64 (.t 13)⟩,
  ⟨some 4, none, .mov (.t 14)⟩])
  (.ret))
def c_pianolaref1_wide : C :=
 .seq (.ops [⟨some 4, none, .mov (.c (.int .i64 0))⟩])
  (c0_pianolaref1_wide)
def f_pianolaref1_wide : F := ⟨c_pianolaref1_wide, [.t 4], some []⟩
theorem h_pianolaref1_wide : compF Try.prog (compAny Try.prog) n_pianolaref1_wide = some (f_pianolaref1_wide.body, f_pianolaref1_wide.res) := by kernel_rfl
/- slices.siftDownOrdered[int] -/
def c0_slices_siftDownOrdered_int : C :=
 .seq (.any 0 [.op 8 ⟨some 61, none, .mov (.t 0)⟩,
  .op 9 ⟨some 62, none, .mov (.t 3)⟩,
  .op 10 ⟨some 63, none, .mov (.t 9)⟩,
  .op 11 ⟨some 64, none, .bin .add (.t 62) (.t 63)⟩,
  .op 12 ⟨some 65, none, .ia 1 (.t 61) (.t 64)⟩,
  .op 13 ⟨some 66, none, .ld (.t 65)⟩,
  .op 14 ⟨some 67, none, .mov (.t 0)⟩,
  .op 15 ⟨some 68, none, .mov (.t 3)⟩,
  .op 16 ⟨some 69, none, .mov (.t 8)⟩,
  .op 17 ⟨some 70, none, .bin .add (.t 68) (.t 69)⟩,
  .op 18 ⟨some 71, none, .ia 1 (.t 67) (.t 70)⟩,
  .op 19 ⟨some 72, none, .ld (.t 71)⟩,
  .op 0 ⟨some 53, none, .mov (.t 0)⟩,
  .op 1 ⟨some 54, none, .mov (.t 3)⟩,
  .op 2 ⟨some 55, none, .mov (.t 8)⟩,
  .op 3 ⟨some 56, none, .bin .add (.t 54) (.t 55)⟩,
  .op 20 ⟨some 73, none, .ia 1 (.t 53) (.t 56)⟩,
  .op 21 ⟨none, none, .st (.t 73) (.t 66)⟩,
  .op 4 ⟨some 57, none, .mov (.t 0)⟩,
  .op 5 ⟨some 58, none, .mov (.t 3)⟩,
  .op 6 ⟨some 59, none, .mov (.t 9)⟩,
  .op 7 ⟨some 60, none, .bin .add (.t 58) (.t 59)⟩,
  .op 22 ⟨some 74, none, .ia 1 (.t 57) (.t 60)⟩,
  .op 23 ⟨none, none, .st (.t 74) (.t 72)⟩])
  (.ops [⟨some 75, none, .mov (.t 9)⟩,
  ⟨some 8, none, .mov (.t 75)⟩])
def c1_slices_siftDownOrdered_int : C :=
 .seq (.seq (.any 0 [.op 0 ⟨some 39, none, .mov (.t 0)⟩,
  .op 1 ⟨some 40, none, .mov (.t 3)⟩,
  .op 2 ⟨some 41, none, .mov (.t 8)⟩,
  .op 3 ⟨some 42, none, .bin .add (.t 40) (.t 41)⟩,
  .op 4 ⟨some 43, none, .ia 1 (.t 39) (.t 42)⟩,
  .op 5 ⟨some 44, none, .ld (.t 43)⟩,
  .op 6 ⟨some 45, none, .mov (.t 0)⟩,
  .op 7 ⟨some 46, none, .mov (.t 3)⟩,
  .op 8 ⟨some 47, none, .mov (.t 9)⟩,
  .op 9 ⟨some 48, none, .bin .add (.t 46) (.t 47)⟩,
  .op 10 ⟨some 49, none, .ia 1 (.t 45) (.t 48)⟩,
  .op 11 ⟨some 50, none, .ld (.t 49)⟩,
  .op 12 ⟨some 51, none, .call n_cmp_Less_int [(.t 44), (.t 50)]⟩,
  .op 13 ⟨some 52, none, .un .not (.t 51)⟩])
  (.cond (.t 52)
  (.ret)
  (.skip)))
  (c0_slices_siftDownOrdered_int)
def c2_slices_siftDownOrdered_int : C :=
 .seq (.seq (.any 0 [.op 0 ⟨some 17, none, .mov (.t 9)⟩,
  .op 1 ⟨some 18, none, .bin .add (.t 17) (.c (.int .i64 1))⟩,
  .op 2 ⟨some 19, none, .mov (.t 2)⟩,
  .op 3 ⟨some 20, none, .bin .lss (.t 18) (.t 19)⟩,
  .op 4 ⟨some 21, none, .mov (.t 20)⟩,
  .op 5 ⟨some 22, some (21, true), .mov (.t 0)⟩,
  .op 6 ⟨some 23, some (21, true), .mov (.t 3)⟩,
  .op 7 ⟨some 24, some (21, true), .mov (.t 9)⟩,
  .op 8 ⟨some 25, some (21, true), .bin .add (.t 23) (.t 24)⟩,
  .op 9 ⟨some 26, some (21, true), .ia 1 (.t 22) (.t 25)⟩,
  .op 10 ⟨some 27, some (21, true), .ld (.t 26)⟩,
  .op 11 ⟨some 28, some (21, true), .mov (.t 0)⟩,
  .op 12 ⟨some 29, some (21, true), .mov (.t 3)⟩,
  .op 13 ⟨some 30, some (21, true), .mov (.t 9)⟩,
  .op 14 ⟨some 31, some (21, true), .bin .add (.t 29) (.t 30)⟩,
  .op 15 ⟨some 32, some (21, true), .bin .add (.t 31) (.c (.int .i64 1))⟩,
  .op 16 ⟨some 33, some (21, true), .ia 1 (.t 28) (.t 32)⟩,
  .op 17 ⟨some 34, some (21, true), .ld (.t 33)⟩,
  .op 18 ⟨some 35, some (21, true), .call n_cmp_Less_int [(.t 27), (.t 34)]⟩,
  .op 19 ⟨some 36, none, .pick (.t 21) (.t 35) (.c (.bool false))⟩])
  (.cond (.t 36)
  (.ops [⟨some 37, none, .mov (.t 9)⟩,
  ⟨some 38, none, .bin .add (.t 37) (.c (.int .i64 1))⟩,
  ⟨some 9, none, .mov (.t 38)⟩])
  (.skip)))
  (c1_slices_siftDownOrdered_int)
def c3_slices_siftDownOrdered_int : C :=
 .block 1
  (.seq (.ops [⟨some 11, none, .mov (.t 8)⟩,
  ⟨some 12, none, .bin .mul (.c (.int .i64 2)) (.t 11)⟩,
  ⟨some 13, none, .bin .add (.t 12) (.c (.int .i64 1))⟩,
  ⟨some 9, none, .mov (.t 13)⟩])
  (.seq (.seq (.ops [⟨some 14, none, .mov (.t 9)⟩,
  ⟨some 15, none, .mov (.t 2)⟩,
  ⟨some 16, none, .bin .geq (.t 14) (.t 15)⟩])
  (.cond (.t 16)
  (.exit 0)
  (.skip)))
  (c2_slices_siftDownOrdered_int)))
def c_slices_siftDownOrdered_int : C :=
 .seq (.ops [⟨some 10, none, .mov (.t 1)⟩,
  ⟨some 8, none, .mov (.t 10)⟩])
  (.block 0
  (.loop c3_slices_siftDownOrdered_int))
def f_slices_siftDownOrdered_int : F := ⟨c_slices_siftDownOrdered_int, [], some []⟩
theorem h_slices_siftDownOrdered_int : compF Try.prog (compAny Try.prog) n_slices_siftDownOrdered_int = some (f_slices_siftDownOrdered_int.body, f_slices_siftDownOrdered_int.res) := by kernel_rfl
/- slices.nextPowerOfTwo -/
def c_slices_nextPowerOfTwo : C :=
 .seq (.ops [⟨some 2, none, .mov (.c (.int .u64 0))⟩])
  (.seq (.ops [⟨some 3, none, .mov (.t 0)⟩,
  ⟨some 4, none, .conv .u64 (.t 3)⟩,
  ⟨some 5, none, .call n_math_bits_Len [(.t 4)]⟩,
  ⟨some 6, none, .bin .shl (.c (.int .u64 1)) (.t 5)⟩,
  ⟨some 2, none, .mov (.t 6)⟩])
  (.ret))
def f_slices_nextPowerOfTwo : F := ⟨c_slices_nextPowerOfTwo, [.t 2], some []⟩
theorem h_slices_nextPowerOfTwo : compF Try.prog (compAny Try.prog) n_slices_nextPowerOfTwo = some (f_slices_nextPowerOfTwo.body, f_slices_nextPowerOfTwo.res) := by kernel_rfl
/- (*slices.xorshift).Next -/
def c0_slices_xorshift_Next : C :=
 .seq (.any 0 [.op 0 ⟨some 21, none, .mov (.t 0)⟩,
  .op 1 ⟨some 22, none, .nilc (.t 21)⟩,
  .op 2 ⟨some 23, none, .ld (.t 22)⟩,
  .op 3 ⟨some 24, none, .mov (.t 0)⟩,
  .op 4 ⟨some 25, none, .nilc (.t 24)⟩,
  .op 5 ⟨some 26, none, .ld (.t 25)⟩,
  .op 6 ⟨some 27, none, .bin .shl (.t 26) (.c (.int .u64 17))⟩,
  .op 7 ⟨some 28, none, .bin .xor (.t 23) (.t 27)⟩,
  .op 8 ⟨some 29, none, .nilc (.t 21)⟩,
  .op 9 ⟨none, none, .st (.t 29) (.t 28)⟩])
  (.seq (.ops [⟨some 30, none, .mov (.t 0)⟩,
  ⟨some 31, none, .nilc (.t 30)⟩,
  ⟨some 32, none, .ld (.t 31)⟩,
  ⟨some 2, none, .mov (.t 32)⟩])
  (.ret))
def c1_slices_xorshift_Next : C :=
 .seq (.any 0 [.op 0 ⟨some 12, none, .mov (.t 0)⟩,
  .op 1 ⟨some 13, none, .nilc (.t 12)⟩,
  .op 2 ⟨some 14, none, .ld (.t 13)⟩,
  .op 3 ⟨some 15, none, .mov (.t 0)⟩,
  .op 4 ⟨some 16, none, .nilc (.t 15)⟩,
  .op 5 ⟨some 17, none, .ld (.t 16)⟩,
  .op 6 ⟨some 18, none, .bin .shr (.t 17) (.c (.int .u64 7))⟩,
  .op 7 ⟨some 19, none, .bin .xor (.t 14) (.t 18)⟩,
  .op 8 ⟨some 20, none, .nilc (.t 12)⟩,
  .op 9 ⟨none, none, .st (.t 20) (.t 19)⟩])
  (c0_slices_xorshift_Next)
def c2_slices_xorshift_Next : C :=
 .seq (.any 0 [.op 0 ⟨some 3, none, .mov (.t 0)⟩,
  .op 1 ⟨some 4, none, .nilc (.t 3)⟩,
  .op 2 ⟨some 5, none, .ld (.t 4)⟩,
  .op 3 ⟨some 6, none, .mov (.t 0)⟩,
  .op 4 ⟨some 7, none, .nilc (.t 6)⟩,
  .op 5 ⟨some 8, none, .ld (.t 7)⟩,
  .op 6 ⟨some 9, none, .bin .shl (.t 8) (.c (.int .u64 13))⟩,
  .op 7 ⟨some 10, none, .bin .xor (.t 5) (.t 9)⟩,
  .op 8 ⟨some 11, none, .nilc (.t 3)⟩,
  .op 9 ⟨none, none, .st (.t 11) (.t 10)⟩])
  (c1_slices_xorshift_Next)
def c_slices_xorshift_Next : C :=
 .seq (.ops [⟨some 2, none, .mov (.c (.int .u64 0))⟩])
  (c2_slices_xorshift_Next)
def f_slices_xorshift_Next : F := ⟨c_slices_xorshift_Next, [.t 2], some []⟩
theorem h_slices_xorshift_Next : compF Try.prog (compAny Try.prog) n_slices_xorshift_Next = some (f_slices_xorshift_Next.body, f_slices_xorshift_Next.res) := by kernel_rfl
/- slices.medianAdjacentOrdered[int] -/
def c0_slices_medianAdjacentOrdered_int : C :=
 .seq (.ops [⟨some 7, none, .mov (.t 0)⟩,
  ⟨some 8, none, .mov (.t 1)⟩,
  ⟨some 9, none, .bin .sub (.t 8) (.c (.int .i64 1))⟩,
  ⟨some 10, none, .mov (.t 1)⟩,
  ⟨some 11, none, .mov (.t 1)⟩,
  ⟨some 12, none, .bin .add (.t 11) (.c (.int .i64 1))⟩,
  ⟨some 13, none, .mov (.t 2)⟩,
  ⟨some 14, none, .call n_slices_medianOrdered_int [(.t 7), (.t 9), (.t 10), (.t 12), (.t 13)]⟩,
  ⟨some 6, none, .mov (.t 14)⟩])
  (.ret)
def c_slices_medianAdjacentOrdered_int : C :=
 .seq (.ops [⟨some 6, none, .mov (.c (.int .i64 0))⟩])
  (c0_slices_medianAdjacentOrdered_int)
def f_slices_medianAdjacentOrdered_int : F := ⟨c_slices_medianAdjacentOrdered_int, [.t 6], some []⟩
theorem h_slices_medianAdjacentOrdered_int : compF Try.prog (compAny Try.prog) n_slices_medianAdjacentOrdered_int = some (f_slices_medianAdjacentOrdered_int.body, f_slices_medianAdjacentOrdered_int.res) := by kernel_rfl
/- slices.medianOrdered[int] -/
def c0_slices_medianOrdered_int : C :=
 .seq (.ops [⟨some 28, none, .mov (.t 0)⟩,
  ⟨some 29, none, .mov (.t 1)⟩,
  ⟨some 30, none, .mov (.t 2)⟩,
  ⟨some 31, none, .mov (.t 4)⟩,
  ⟨some 32, none, .call n_slices_order2Ordered_int [(.t 28), (.t 29), (.t 30), (.t 31)]⟩,
  ⟨some 27, none, .mov (.t 32)⟩,
  ⟨some 33, none, .ext (.t 27) 0⟩,
  ⟨some 34, none, .ext (.t 27) 1⟩,
  ⟨some 1, none, .mov (.t 33)⟩,
  ⟨some 2, none, .mov (.t 34)⟩])
  (.seq (.ops [⟨some 35, none, .mov (.t 2)⟩,
  ⟨some 10, none, .mov (.t 35)⟩])
  (.ret))
def c1_slices_medianOrdered_int : C :=
 .seq (.ops [⟨some 20, none, .mov (.t 0)⟩,
  ⟨some 21, none, .mov (.t 2)⟩,
  ⟨some 22, none, .mov (.t 3)⟩,
  ⟨some 23, none, .mov (.t 4)⟩,
  ⟨some 24, none, .call n_slices_order2Ordered_int [(.t 20), (.t 21), (.t 22), (.t 23)]⟩,
  ⟨some 19, none, .mov (.t 24)⟩,
  ⟨some 25, none, .ext (.t 19) 0⟩,
  ⟨some 26, none, .ext (.t 19) 1⟩,
  ⟨some 2, none, .mov (.t 25)⟩,
  ⟨some 3, none, .mov (.t 26)⟩])
  (c0_slices_medianOrdered_int)
def c2_slices_medianOrdered_int : C :=
 .seq (.ops [⟨some 12, none, .mov (.t 0)⟩,
  ⟨some 13, none, .mov (.t 1)⟩,
  ⟨some 14, none, .mov (.t 2)⟩,
  ⟨some 15, none, .mov (.t 4)⟩,
  ⟨some 16, none, .call n_slices_order2Ordered_int [(.t 12), (.t 13), (.t 14), (.t 15)]⟩,
  ⟨some 11, none, .mov (.t 16)⟩,
  ⟨some 17, none, .ext (.t 11) 0⟩,
  ⟨some 18, none, .ext (.t 11) 1⟩,
  ⟨some 1, none, .mov (.t 17)⟩,
  ⟨some 2, none, .mov (.t 18)⟩])
  (c1_slices_medianOrdered_int)
def c_slices_medianOrdered_int : C :=
 .seq (.ops [⟨some 10, none, .mov (.c (.int .i64 0))⟩])
  (c2_slices_medianOrdered_int)
def f_slices_medianOrdered_int : F := ⟨c_slices_medianOrdered_int, [.t 10], some []⟩
theorem h_slices_medianOrdered_int : compF Try.prog (compAny Try.prog) n_slices_medianOrdered_int = some (f_slices_medianOrdered_int.body, f_slices_medianOrdered_int.res) := by kernel_rfl
/- cmp.isNaN[int] -/
def c_cmp_isNaN_int : C :=
 .seq (.ops [⟨some 2, none, .mov (.c (.bool false))⟩])
  (.seq (.ops [⟨some 3, none, .mov (.t 0)⟩,
  ⟨some 4, none, .mov (.t 0)⟩,
  ⟨some 5, none, .bin .neq (.t 3) (.t 4)⟩,
  ⟨some 2, none, .mov (.t 5)⟩])
  (.ret))
def f_cmp_isNaN_int : F := ⟨c_cmp_isNaN_int, [.t 2], some []⟩
theorem h_cmp_isNaN_int : compF Try.prog (compAny Try.prog) n_cmp_isNaN_int = some (f_cmp_isNaN_int.body, f_cmp_isNaN_int.res) := by kernel_rfl
/- slices.order2Ordered[int] -/
def c0_slices_order2Ordered_int : C :=
 .seq (.ops [⟨some 19, none, .mov (.t 3)⟩,
  ⟨some 20, none, .nilc (.t 19)⟩,
  ⟨some 21, none, .ld (.t 20)⟩,
  ⟨some 22, none, .bin .add (.t 21) (.c (.int .i64 1))⟩,
  ⟨some 23, none, .nilc (.t 19)⟩,
  ⟨none, none, .st (.t 23) (.t 22)⟩])
  (.seq (.ops [⟨some 24, none, .mov (.t 2)⟩,
  ⟨some 25, none, .mov (.t 1)⟩,
  ⟨some 8, none, .mov (.t 24)⟩,
  ⟨some 9, none, .mov (.t 25)⟩])
  (.ret))
def c1_slices_order2Ordered_int : C :=
 .seq (.seq (.any 0 [.op 0 ⟨some 10, none, .mov (.t 0)⟩,
  .op 1 ⟨some 11, none, .mov (.t 2)⟩,
  .op 2 ⟨some 12, none, .ia 1 (.t 10) (.t 11)⟩,
  .op 3 ⟨some 13, none, .ld (.t 12)⟩,
  .op 4 ⟨some 14, none, .mov (.t 0)⟩,
  .op 5 ⟨some 15, none, .mov (.t 1)⟩,
  .op 6 ⟨some 16, none, .ia 1 (.t 14) (.t 15)⟩,
  .op 7 ⟨some 17, none, .ld (.t 16)⟩,
  .op 8 ⟨some 18, none, .call n_cmp_Less_int [(.t 13), (.t 17)]⟩])
  (.cond (.t 18)
  (c0_slices_order2Ordered_int)
  (.skip)))
  (.seq (.ops [⟨some 26, none, .mov (.t 1)⟩,
  ⟨some 27, none, .mov (.t 2)⟩,
  ⟨some 8, none, .mov (.t 26)⟩,
  ⟨some 9, none, .mov (.t 27)⟩])
  (.ret))
def c_slices_order2Ordered_int : C :=
 .seq (.ops [⟨some 8, none, .mov (.c (.int .i64 0))⟩,
  ⟨some 9, none, .mov (.c (.int .i64 0))⟩])
  (c1_slices_order2Ordered_int)
def f_slices_order2Ordered_int : F := ⟨c_slices_order2Ordered_int, [.t 8, .t 9], some []⟩
theorem h_slices_order2Ordered_int : compF Try.prog (compAny Try.prog) n_slices_order2Ordered_int = some (f_slices_order2Ordered_int.body, f_slices_order2Ordered_int.res) := by kernel_rfl
end Go.Proofs.Ytjobkhnanbkcjaa.Cd
