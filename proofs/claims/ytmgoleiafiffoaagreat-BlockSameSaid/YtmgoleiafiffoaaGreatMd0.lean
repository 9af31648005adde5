/- Texts of one kind, one behind the other. -/
import Derived.Test.YtmgoleiafiffoaaGreatProg
import Derived.KernelRfl
import Derived.Test.YtmgoleiafiffoaaGreatMb0
set_option maxRecDepth 100000
set_option linter.defProp false
namespace Go.Proofs.YtmgoleiafiffoaaGreat.Cd
open Go Go.Dx
def n_pianolalaw21_BlockSame : Nat := 6
def n_pianolalaw21_memory : Nat := 7
def n_pianolalaw21_known : Nat := 9
def n_pianolakeep_Image : Nat := 10
def n_pianolabook_Within : Nat := 11
def n_block_Find : Nat := 12
def n_ram_Ram_Load : Nat := 13
def n_ram_Ram_Store : Nat := 14
def n_block_Same : Nat := 15
def n_ram_New : Nat := 16
def n_pianolaref2_New : Nat := 17
def n_ram_Ram_Put : Nat := 18
def n_pianolaref2_Ram_Put : Nat := 19
def n_block_Block_Page : Nat := 23
def n_pianolakeep_put : Nat := 28
def n_pianolakeep_word : Nat := 29
def n_pianolakeep_Code : Nat := 30
def n_ram_Ram_Size : Nat := 31
def n_decode_Of : Nat := 32
def n_decode_Class : Nat := 33
def n_block_Block_add : Nat := 34
def n_ram_Ram_even : Nat := 35
def n_ram_Ram_touch : Nat := 36
def n_ram_Ram_there : Nat := 37
def n_pianolaref2_Ram_In : Nat := 38
def n_pianolaref2_Ram_touch : Nat := 39
def n_pianolaref3_Word : Nat := 55
def n_pianolakeep_Plain : Nat := 56
def n_pianolakeep_Any : Nat := 57
def n_pianolakeep_Inst : Nat := 58
def n_decode_with : Nat := 59
def n_decode_kind : Nat := 60
def n_opt_Opt : Nat := 61
def n_lift_Of : Nat := 62
def n_pianolaref3_has : Nat := 65
def n_pianolaref3_Right : Nat := 95
def n_pianolaref3_find : Nat := 96
def n_pianolakeep_near : Nat := 97
def n_pianolakeep_only : Nat := 98
def n_decode_fields : Nat := 99
def n_decode_special : Nat := 100
def n_decode_regimm : Nat := 101
def n_decode_cop0 : Nat := 102
def n_decode_special2 : Nat := 103
def n_decode_major : Nat := 104
def n_opt_Dead : Nat := 105
def n_opt_Fold : Nat := 106
def n_lift_Is : Nat := 107
def n_lift_kind : Nat := 108
def n_alu_Into : Nat := 109
def n_lift_imm : Nat := 110
def n_pianolaref3_special : Nat := 111
def n_pianolaref3_others : Nat := 112
def n_pianolaref3_plain : Nat := 113
def n_pianolaref3_small : Nat := 128
def n_decode_table : Nat := 129
def n_opt_right : Nat := 130
def n_ir_Writes : Nat := 131
def n_slices_ContainsFunc_int_int : Nat := 132
def n_opt_Dead_1 : Nat := 133
def n_opt_sure : Nat := 134
def n_ir_Reads : Nat := 135
def n_slices_Reverse_ir_Op_ir_Op : Nat := 136
def n_opt_facts_fold : Nat := 137
def n_opt_facts_done : Nat := 138
def n_decode_Right : Nat := 139
def n_alu_Is : Nat := 140
def n_word_Sign : Nat := 141
def n_ir_Right : Nat := 149
def n_slices_IndexFunc_int_int : Nat := 150
def n_slices_Sort_int_int : Nat := 151
def n_slices_Compact_int_int : Nat := 152
def n_opt_facts_knows : Nat := 153
def n_ir_Run : Nat := 154
def n_decode_put : Nat := 155
def n_word_Sar : Nat := 156
def n_slices_pdqsortOrdered_int : Nat := 159
def n_math_bits_Len : Nat := 160
def n_slices_ContainsFunc_ir_Op_ir_Op : Nat := 161
def n_ir_Run_1 : Nat := 162
def n_ir_Regs_do : Nat := 163
def n_slices_insertionSortOrdered_int : Nat := 164
def n_slices_heapSortOrdered_int : Nat := 165
def n_slices_breakPatternsOrdered_int : Nat := 166
def n_slices_choosePivotOrdered_int : Nat := 167
def n_slices_reverseRangeOrdered_int : Nat := 168
def n_slices_partialInsertionSortOrdered_int : Nat := 169
def n_cmp_Less_int : Nat := 170
def n_slices_partitionEqualOrdered_int : Nat := 171
def n_slices_partitionOrdered_int : Nat := 172
def n_math_bits_Len32 : Nat := 173
def n_math_bits_Len64 : Nat := 174
def n_slices_IndexFunc_ir_Op_ir_Op : Nat := 175
def n_word_Mul : Nat := 176
def n_word_Div : Nat := 177
def n_ir_of : Nat := 178
def n_slices_siftDownOrdered_int : Nat := 179
def n_slices_nextPowerOfTwo : Nat := 180
def n_slices_xorshift_Next : Nat := 181
def n_slices_medianAdjacentOrdered_int : Nat := 182
def n_slices_medianOrdered_int : Nat := 183
def n_cmp_isNaN_int : Nat := 184
def n_ir_one : Nat := 185
def n_word_Less : Nat := 186
def n_word_Clz : Nat := 187
def n_word_Clo : Nat := 188
def n_slices_order2Ordered_int : Nat := 189
def n_math_bits_LeadingZeros32 : Nat := 190
end Go.Proofs.YtmgoleiafiffoaaGreat.Cd

set_option maxRecDepth 100000
set_option linter.defProp false
namespace Go.Proofs.YtmgoleiafiffoaaGreat.Cd
open Go Go.Dx
def c0_pianolalaw21_BlockSame : C :=
 .seq (.ops [⟨some 87, none, .ldn 4 (.t 12)⟩,
  ⟨some 88, none, .mov (.t 9)⟩,
  ⟨some 89, none, .call n_block_Same [(.t 87), (.t 88)]⟩,
  ⟨some 90, none, .mov (.t 89)⟩,
  ⟨some 91, some (90, true), .ldn 4 (.t 12)⟩,
  ⟨some 92, some (90, true), .call n_block_Same [(.t 91), (.c (.pointer none))]⟩,
  ⟨some 93, some (90, true), .un .not (.t 92)⟩,
  ⟨some 94, none, .pick (.t 90) (.t 93) (.c (.bool false))⟩,
  ⟨some 95, none, .mov (.t 94)⟩,
  ⟨some 96, some (95, true), .call n_pianolalaw21_known []⟩,
  ⟨some 97, none, .pick (.t 95) (.t 96) (.c (.bool false))⟩,
  ⟨some 8, none, .mov (.t 97)⟩])
  (.ret)
def c1_pianolalaw21_BlockSame : C :=
 .seq (.seq (.ops [⟨some 78, none, .ldn 4 (.t 12)⟩,
  ⟨some 79, none, .mov (.t 9)⟩,
  ⟨some 80, none, .call n_block_Same [(.t 78), (.t 79)]⟩,
  ⟨some 81, none, .mov (.t 17)⟩,
  ⟨some 82, none, .eqb false (.t 80) (.t 81)⟩])
  (.cond (.t 82)
  (.seq (.ops [⟨some 8, none, .mov (.c (.bool false))⟩])
  (.ret))
  (.skip)))
  (.seq (.ops [⟨some 83, none, .mov (.t 9)⟩,
  ⟨some 84, none, .mov (.t 14)⟩,
  ⟨some 85, none, .mov (.t 15)⟩,
  ⟨some 86, none, .call n_ram_Ram_Store [(.t 83), (.t 84), (.c (.int .i64 1)), (.t 85)]⟩])
  (c0_pianolalaw21_BlockSame))
def c2_pianolalaw21_BlockSame : C :=
 .seq (.ops [⟨some 60, none, .mov (.t 14)⟩,
  ⟨some 61, none, .mov (.t 11)⟩,
  ⟨some 62, none, .bin .geq (.t 60) (.t 61)⟩,
  ⟨some 63, none, .mov (.t 62)⟩,
  ⟨some 64, some (63, true), .mov (.t 14)⟩,
  ⟨some 65, some (63, true), .mov (.t 11)⟩,
  ⟨some 66, some (63, true), .fa 1 (.t 12)⟩,
  ⟨some 67, some (63, true), .ld (.t 66)⟩,
  ⟨some 68, some (63, true), .len 1 (.t 67)⟩,
  ⟨some 69, some (63, true), .bin .mul (.c (.int .i64 4)) (.t 68)⟩,
  ⟨some 70, some (63, true), .conv .u32 (.t 69)⟩,
  ⟨some 71, some (63, true), .bin .add (.t 65) (.t 70)⟩,
  ⟨some 72, some (63, true), .bin .lss (.t 64) (.t 71)⟩,
  ⟨some 73, none, .pick (.t 63) (.t 72) (.c (.bool false))⟩,
  ⟨some 74, none, .mov (.t 73)⟩,
  ⟨some 75, some (74, true), .mov (.t 3)⟩,
  ⟨some 76, some (74, true), .bin .neq (.t 75) (.c (.int .u8 0))⟩,
  ⟨some 77, none, .pick (.t 74) (.t 76) (.c (.bool false))⟩,
  ⟨some 17, none, .mov (.t 77)⟩])
  (c1_pianolalaw21_BlockSame)
def c3_pianolalaw21_BlockSame : C :=
 .seq (.ops [⟨some 53, none, .mov (.t 9)⟩,
  ⟨some 54, none, .mov (.t 14)⟩,
  ⟨some 55, none, .mov (.t 15)⟩,
  ⟨some 56, none, .mov (.t 3)⟩,
  ⟨some 57, none, .conv .u32 (.t 56)⟩,
  ⟨some 58, none, .bin .xor (.t 55) (.t 57)⟩,
  ⟨some 59, none, .call n_ram_Ram_Store [(.t 53), (.t 54), (.c (.int .i64 1)), (.t 58)]⟩])
  (c2_pianolalaw21_BlockSame)
def c4_pianolalaw21_BlockSame : C :=
 .seq (.ops [⟨some 48, none, .mov (.t 9)⟩,
  ⟨some 49, none, .mov (.t 14)⟩,
  ⟨some 50, none, .call n_ram_Ram_Load [(.t 48), (.t 49), (.c (.int .i64 1))]⟩,
  ⟨some 47, none, .mov (.t 50)⟩,
  ⟨some 51, none, .ext (.t 47) 0⟩,
  ⟨some 52, none, .ext (.t 47) 1⟩,
  ⟨some 15, none, .mov (.t 51)⟩,
  ⟨some 16, none, .mov (.t 52)⟩])
  (c3_pianolalaw21_BlockSame)
def c5_pianolalaw21_BlockSame : C :=
 .seq (.seq (.ops [⟨some 36, none, .mov (.t 13)⟩,
  ⟨some 37, none, .un .not (.t 36)⟩,
  ⟨some 38, none, .mov (.t 37)⟩,
  ⟨some 39, some (38, false), .fa 1 (.t 12)⟩,
  ⟨some 40, some (38, false), .ld (.t 39)⟩,
  ⟨some 41, some (38, false), .len 1 (.t 40)⟩,
  ⟨some 42, some (38, false), .bin .eql (.t 41) (.c (.int .i64 0))⟩,
  ⟨some 43, none, .pick (.t 38) (.c (.bool true)) (.t 42)⟩])
  (.cond (.t 43)
  (.seq (.ops [⟨some 8, none, .mov (.c (.bool false))⟩])
  (.ret))
  (.skip)))
  (.seq (.ops [⟨some 44, none, .mov (.t 2)⟩,
  ⟨some 45, none, .bin .rem (.t 44) (.c (.int .u32 1024))⟩,
  ⟨some 46, none, .bin .add (.c (.int .u32 768)) (.t 45)⟩,
  ⟨some 14, none, .mov (.t 46)⟩])
  (c4_pianolalaw21_BlockSame))
def c6_pianolalaw21_BlockSame : C :=
 .seq (.ops [⟨some 31, none, .mov (.t 9)⟩,
  ⟨some 32, none, .mov (.t 11)⟩,
  ⟨some 33, none, .call n_block_Find [(.t 31), (.t 32), (.c (.int .i64 32))]⟩,
  ⟨some 30, none, .mov (.t 33)⟩,
  ⟨some 34, none, .ext (.t 30) 0⟩,
  ⟨some 35, none, .ext (.t 30) 1⟩,
  ⟨some 12, none, .new [(.int .u32 0), (.slice none 0 0), (.slice none 0 0), (.slice none 0 0)]⟩,
  ⟨none, none, .stn 4 (.t 12) (.t 34)⟩,
  ⟨some 13, none, .mov (.t 35)⟩])
  (c5_pianolalaw21_BlockSame)
def c7_pianolalaw21_BlockSame : C :=
 .seq (.seq (.ops [⟨some 24, none, .mov (.t 9)⟩,
  ⟨some 25, none, .eqn 0 false (.t 24)⟩])
  (.cond (.t 25)
  (.seq (.ops [⟨some 8, none, .mov (.c (.bool false))⟩])
  (.ret))
  (.skip)))
  (.seq (.ops [⟨some 26, none, .mov (.t 1)⟩,
  ⟨some 27, none, .bin .rem (.t 26) (.c (.int .u32 200))⟩,
  ⟨some 28, none, .bin .mul (.t 27) (.c (.int .u32 4))⟩,
  ⟨some 29, none, .bin .add (.c (.int .u32 1024)) (.t 28)⟩,
  ⟨some 11, none, .mov (.t 29)⟩])
  (c6_pianolalaw21_BlockSame))
def c8_pianolalaw21_BlockSame : C :=
 .seq (.ops [⟨some 19, none, .mov (.t 0)⟩,
  ⟨some 20, none, .call n_pianolakeep_Image [(.t 19), (.c (.int .i64 2))]⟩,
  ⟨some 21, none, .call n_pianolalaw21_memory [(.t 20)]⟩,
  ⟨some 18, none, .mov (.t 21)⟩,
  ⟨some 22, none, .ext (.t 18) 0⟩,
  ⟨some 23, none, .ext (.t 18) 1⟩,
  ⟨some 9, none, .mov (.t 22)⟩,
  ⟨some 10, none, .mov (.t 23)⟩])
  (c7_pianolalaw21_BlockSame)
def c_pianolalaw21_BlockSame : C :=
 .seq (.ops [⟨some 8, none, .mov (.c (.bool false))⟩])
  (c8_pianolalaw21_BlockSame)
def f_pianolalaw21_BlockSame : F := ⟨c_pianolalaw21_BlockSame, [.t 8], some []⟩
theorem h_pianolalaw21_BlockSame : compF Tryz.prog (compAny Tryz.prog) n_pianolalaw21_BlockSame = some (f_pianolalaw21_BlockSame.body, f_pianolalaw21_BlockSame.res) := by kernel_rfl
def c0_pianolalaw21_memory : C :=
 .seq (.ops [⟨some 15, none, .mov (.t 4)⟩,
  ⟨some 16, none, .mov (.t 0)⟩,
  ⟨some 17, none, .call n_ram_Ram_Put [(.t 15), (.c (.int .u32 0)), (.t 16)]⟩])
  (.seq (.ops [⟨some 18, none, .mov (.t 5)⟩,
  ⟨some 19, none, .mov (.t 0)⟩,
  ⟨some 20, none, .call n_pianolaref2_Ram_Put [(.t 18), (.c (.int .u32 0)), (.t 19)]⟩])
  (.seq (.ops [⟨some 21, none, .mov (.t 4)⟩,
  ⟨some 22, none, .mov (.t 5)⟩,
  ⟨some 2, none, .mov (.t 21)⟩,
  ⟨some 3, none, .mov (.t 22)⟩])
  (.ret)))
def c1_pianolalaw21_memory : C :=
 .seq (.seq (.ops [⟨some 10, none, .mov (.t 0)⟩,
  ⟨some 11, none, .len 1 (.t 10)⟩,
  ⟨some 12, none, .bin .gtr (.t 11) (.c (.int .i64 2048))⟩])
  (.cond (.t 12)
  (.ops [⟨some 13, none, .mov (.t 0)⟩,
  ⟨some 14, none, .sl 1 (.t 13) none (some (.c (.int .i64 2048))) none⟩,
  ⟨some 0, none, .mov (.t 14)⟩])
  (.skip)))
  (c0_pianolalaw21_memory)
def c2_pianolalaw21_memory : C :=
 .seq (.ops [⟨some 6, none, .call n_ram_New [(.c (.int .i64 2))]⟩,
  ⟨some 7, none, .call n_pianolaref2_New [(.c (.int .i64 2))]⟩,
  ⟨some 4, none, .mov (.t 6)⟩,
  ⟨some 5, none, .mov (.t 7)⟩])
  (.seq (.seq (.ops [⟨some 8, none, .mov (.t 4)⟩,
  ⟨some 9, none, .eqn 0 false (.t 8)⟩])
  (.cond (.t 9)
  (.seq (.ops [⟨some 2, none, .mov (.c (.pointer none))⟩,
  ⟨some 3, none, .mov (.c (.pointer none))⟩])
  (.ret))
  (.skip)))
  (c1_pianolalaw21_memory))
def c_pianolalaw21_memory : C :=
 .seq (.ops [⟨some 2, none, .mov (.c (.pointer none))⟩,
  ⟨some 3, none, .mov (.c (.pointer none))⟩])
  (c2_pianolalaw21_memory)
def f_pianolalaw21_memory : F := ⟨c_pianolalaw21_memory, [.t 2, .t 3], some []⟩
theorem h_pianolalaw21_memory : compF Tryz.prog (compAny Tryz.prog) n_pianolalaw21_memory = some (f_pianolalaw21_memory.body, f_pianolalaw21_memory.res) := by kernel_rfl
def c0_pianolalaw21_known : C :=
 .seq (.ops [⟨some 25, none, .mov (.t 3)⟩,
  ⟨some 26, none, .mov (.t 25)⟩,
  ⟨some 27, some (26, true), .fa 2 (.t 2)⟩,
  ⟨some 28, some (26, true), .ld (.t 27)⟩,
  ⟨some 29, some (26, true), .len 1 (.t 28)⟩,
  ⟨some 30, some (26, true), .bin .eql (.t 29) (.c (.int .i64 5))⟩,
  ⟨some 31, none, .pick (.t 26) (.t 30) (.c (.bool false))⟩,
  ⟨some 32, none, .mov (.t 31)⟩,
  ⟨some 33, some (32, true), .fa 1 (.t 2)⟩,
  ⟨some 34, some (32, true), .ld (.t 33)⟩,
  ⟨some 35, some (32, true), .len 1 (.t 34)⟩,
  ⟨some 36, some (32, true), .bin .eql (.t 35) (.c (.int .i64 5))⟩,
  ⟨some 37, none, .pick (.t 32) (.t 36) (.c (.bool false))⟩,
  ⟨some 38, none, .mov (.t 37)⟩,
  ⟨some 39, some (38, true), .fa 3 (.t 2)⟩,
  ⟨some 40, some (38, true), .ld (.t 39)⟩,
  ⟨some 41, some (38, true), .len 1 (.t 40)⟩,
  ⟨some 42, some (38, true), .bin .eql (.t 41) (.c (.int .i64 5))⟩,
  ⟨some 43, none, .pick (.t 38) (.t 42) (.c (.bool false))⟩,
  ⟨some 44, none, .mov (.t 43)⟩,
  ⟨some 45, some (44, true), .ldn 4 (.t 2)⟩,
  ⟨some 46, some (44, true), .call n_block_Block_Page [(.t 45)]⟩,
  ⟨some 47, some (44, true), .bin .eql (.t 46) (.c (.int .i64 0))⟩,
  ⟨some 48, none, .pick (.t 44) (.t 47) (.c (.bool false))⟩,
  ⟨some 49, none, .mov (.t 48)⟩,
  ⟨some 50, some (49, true), .ldn 4 (.t 2)⟩,
  ⟨some 51, some (49, true), .mov (.t 1)⟩,
  ⟨some 52, some (49, true), .call n_block_Same [(.t 50), (.t 51)]⟩,
  ⟨some 53, none, .pick (.t 49) (.t 52) (.c (.bool false))⟩,
  ⟨some 54, none, .mov (.t 53)⟩,
  ⟨some 55, some (54, true), .mov (.t 5)⟩,
  ⟨some 56, some (54, true), .un .not (.t 55)⟩,
  ⟨some 57, none, .pick (.t 54) (.t 56) (.c (.bool false))⟩,
  ⟨some 58, none, .mov (.t 57)⟩,
  ⟨some 59, some (58, true), .mov (.t 7)⟩,
  ⟨some 60, some (58, true), .un .not (.t 59)⟩,
  ⟨some 61, none, .pick (.t 58) (.t 60) (.c (.bool false))⟩,
  ⟨some 0, none, .mov (.t 61)⟩])
  (.ret)
def c1_pianolalaw21_known : C :=
 .seq (.ops [⟨some 22, none, .call n_block_Find [(.c (.pointer none)), (.c (.int .u32 0)), (.c (.int .i64 5))]⟩,
  ⟨some 21, none, .mov (.t 22)⟩,
  ⟨some 23, none, .ext (.t 21) 0⟩,
  ⟨some 24, none, .ext (.t 21) 1⟩,
  ⟨some 6, none, .new [(.int .u32 0), (.slice none 0 0), (.slice none 0 0), (.slice none 0 0)]⟩,
  ⟨none, none, .stn 4 (.t 6) (.t 23)⟩,
  ⟨some 7, none, .mov (.t 24)⟩])
  (c0_pianolalaw21_known)
def c2_pianolalaw21_known : C :=
 .seq (.ops [⟨some 17, none, .mov (.t 1)⟩,
  ⟨some 18, none, .call n_block_Find [(.t 17), (.c (.int .u32 2)), (.c (.int .i64 5))]⟩,
  ⟨some 16, none, .mov (.t 18)⟩,
  ⟨some 19, none, .ext (.t 16) 0⟩,
  ⟨some 20, none, .ext (.t 16) 1⟩,
  ⟨some 4, none, .new [(.int .u32 0), (.slice none 0 0), (.slice none 0 0), (.slice none 0 0)]⟩,
  ⟨none, none, .stn 4 (.t 4) (.t 19)⟩,
  ⟨some 5, none, .mov (.t 20)⟩])
  (c1_pianolalaw21_known)
def c3_pianolalaw21_known : C :=
 .seq (.ops [⟨some 12, none, .mov (.t 1)⟩,
  ⟨some 13, none, .call n_block_Find [(.t 12), (.c (.int .u32 0)), (.c (.int .i64 5))]⟩,
  ⟨some 11, none, .mov (.t 13)⟩,
  ⟨some 14, none, .ext (.t 11) 0⟩,
  ⟨some 15, none, .ext (.t 11) 1⟩,
  ⟨some 2, none, .new [(.int .u32 0), (.slice none 0 0), (.slice none 0 0), (.slice none 0 0)]⟩,
  ⟨none, none, .stn 4 (.t 2) (.t 14)⟩,
  ⟨some 3, none, .mov (.t 15)⟩])
  (c2_pianolalaw21_known)
def c_pianolalaw21_known : C :=
 .seq (.ops [⟨some 0, none, .mov (.c (.bool false))⟩])
  (.seq (.ops [⟨some 8, none, .call n_ram_New [(.c (.int .i64 1))]⟩,
  ⟨some 1, none, .mov (.t 8)⟩])
  (.seq (.seq (.ops [⟨some 9, none, .mov (.t 1)⟩,
  ⟨some 10, none, .eqn 0 false (.t 9)⟩])
  (.cond (.t 10)
  (.seq (.ops [⟨some 0, none, .mov (.c (.bool false))⟩])
  (.ret))
  (.skip)))
  (c3_pianolalaw21_known)))
def f_pianolalaw21_known : F := ⟨c_pianolalaw21_known, [.t 0], some []⟩
theorem h_pianolalaw21_known : compF Tryz.prog (compAny Tryz.prog) n_pianolalaw21_known = some (f_pianolalaw21_known.body, f_pianolalaw21_known.res) := by kernel_rfl
def c0_pianolakeep_Image : C :=
 .seq (.block 1
  (.ops [⟨some 46, none, .mov (.t 6)⟩,
  ⟨some 47, none, .mov (.t 0)⟩,
  ⟨some 48, none, .mov (.t 7)⟩,
  ⟨some 49, none, .ia 7 (.t 47) (.t 48)⟩,
  ⟨some 50, none, .ldn 7 (.t 49)⟩,
  ⟨some 51, none, .call n_pianolakeep_Code [(.t 50)]⟩,
  ⟨some 52, none, .bsl 1 [(.int .u32 0)] [(0, 1, (.t 51))]⟩,
  ⟨some 53, none, .app 1 4 (.t 46) (.t 52)⟩,
  ⟨some 6, none, .mov (.t 53)⟩]))
  (.ops [⟨some 44, none, .mov (.t 7)⟩,
  ⟨some 45, none, .bin .add (.t 44) (.c (.int .i64 1))⟩,
  ⟨some 7, none, .mov (.t 45)⟩])
def c1_pianolakeep_Image : C :=
 .seq (.seq (.ops [⟨some 36, none, .mov (.t 7)⟩,
  ⟨some 37, none, .mov (.t 0)⟩,
  ⟨some 38, none, .len 1 (.t 37)⟩,
  ⟨some 39, none, .bin .lss (.t 36) (.t 38)⟩,
  ⟨some 40, none, .mov (.t 39)⟩,
  ⟨some 41, some (40, true), .mov (.t 7)⟩,
  ⟨some 42, some (40, true), .bin .lss (.t 41) (.c (.int .i64 200))⟩,
  ⟨some 43, none, .pick (.t 40) (.t 42) (.c (.bool false))⟩])
  (.cond (.t 43)
  (.skip)
  (.exit 0)))
  (c0_pianolakeep_Image)
def c2_pianolakeep_Image : C :=
 .seq (.seq (.ops [⟨some 54, none, .mov (.t 6)⟩,
  ⟨some 55, none, .len 1 (.t 54)⟩,
  ⟨some 56, none, .bin .mul (.t 55) (.c (.int .i64 4))⟩,
  ⟨some 57, none, .bin .add (.t 56) (.c (.int .i64 1024))⟩,
  ⟨some 58, none, .mov (.t 5)⟩,
  ⟨some 59, none, .len 1 (.t 58)⟩,
  ⟨some 60, none, .bin .leq (.t 57) (.t 59)⟩])
  (.cond (.t 60)
  (.ops [⟨some 61, none, .mov (.t 5)⟩,
  ⟨some 62, none, .mov (.t 6)⟩,
  ⟨some 63, none, .call n_pianolakeep_put [(.t 61), (.c (.int .i64 1024)), (.t 62)]⟩])
  (.skip)))
  (.seq (.ops [⟨some 64, none, .mov (.t 5)⟩,
  ⟨some 4, none, .mov (.t 64)⟩])
  (.ret))
def c3_pianolakeep_Image : C :=
 .seq (.ops [⟨some 27, none, .build [(.int .i64 0), (.int .i64 0), (.int .i64 0), (.int .i64 0), (.int .i64 0), (.int .u32 0)] [(0, 1, (.c (.int .i64 53))), (2, 1, (.c (.int .i64 28))), (5, 1, (.c (.int .u32 32768)))]⟩,
  ⟨some 28, none, .call n_pianolakeep_word [(.t 27)]⟩,
  ⟨some 29, none, .build [(.int .i64 0), (.int .i64 0), (.int .i64 0), (.int .i64 0), (.int .i64 0), (.int .u32 0)] [(0, 1, (.c (.int .i64 51))), (1, 1, (.c (.int .i64 28))), (2, 1, (.c (.int .i64 29))), (5, 1, (.c (.int .u32 1024)))]⟩,
  ⟨some 30, none, .call n_pianolakeep_word [(.t 29)]⟩,
  ⟨some 31, none, .build [(.int .i64 0), (.int .i64 0), (.int .i64 0), (.int .i64 0), (.int .i64 0), (.int .u32 0)] [(0, 1, (.c (.int .i64 53))), (2, 1, (.c (.int .i64 30))), (5, 1, (.c (.int .u32 48896)))]⟩,
  ⟨some 32, none, .call n_pianolakeep_word [(.t 31)]⟩,
  ⟨some 33, none, .build [(.int .i64 0), (.int .i64 0), (.int .i64 0), (.int .i64 0), (.int .i64 0), (.int .u32 0)] [(0, 1, (.c (.int .i64 51))), (1, 1, (.c (.int .i64 28))), (2, 1, (.c (.int .i64 31))), (5, 1, (.c (.int .u32 1536)))]⟩,
  ⟨some 34, none, .call n_pianolakeep_word [(.t 33)]⟩,
  ⟨some 35, none, .bsl 4 [(.int .u32 0), (.int .u32 0), (.int .u32 0), (.int .u32 0)] [(0, 1, (.t 28)), (1, 1, (.t 30)), (2, 1, (.t 32)), (3, 1, (.t 34))]⟩,
  ⟨some 6, none, .mov (.t 35)⟩])
  (.seq (.seq (.ops [⟨some 7, none, .mov (.c (.int .i64 0))⟩])
  (.block 0
  (.loop c1_pianolakeep_Image)))
  (c2_pianolakeep_Image))
def c4_pianolakeep_Image : C :=
 .seq (.ops [⟨some 16, none, .mov (.t 5)⟩,
  ⟨some 17, none, .build [(.int .i64 0), (.int .i64 0), (.int .i64 0), (.int .i64 0), (.int .i64 0), (.int .u32 0)] [(0, 1, (.c (.int .i64 54))), (2, 1, (.c (.int .i64 26))), (3, 1, (.c (.int .i64 14)))]⟩,
  ⟨some 18, none, .call n_pianolakeep_word [(.t 17)]⟩,
  ⟨some 19, none, .build [(.int .i64 0), (.int .i64 0), (.int .i64 0), (.int .i64 0), (.int .i64 0), (.int .u32 0)] [(0, 1, (.c (.int .i64 47))), (1, 1, (.c (.int .i64 26))), (2, 1, (.c (.int .i64 26))), (5, 1, (.c (.int .u32 4)))]⟩,
  ⟨some 20, none, .call n_pianolakeep_word [(.t 19)]⟩,
  ⟨some 21, none, .build [(.int .i64 0), (.int .i64 0), (.int .i64 0), (.int .i64 0), (.int .i64 0), (.int .u32 0)] [(0, 1, (.c (.int .i64 55))), (2, 1, (.c (.int .i64 26))), (3, 1, (.c (.int .i64 14)))]⟩,
  ⟨some 22, none, .call n_pianolakeep_word [(.t 21)]⟩,
  ⟨some 23, none, .build [(.int .i64 0), (.int .i64 0), (.int .i64 0), (.int .i64 0), (.int .i64 0), (.int .u32 0)] [(0, 1, (.c (.int .i64 60)))]⟩,
  ⟨some 24, none, .call n_pianolakeep_word [(.t 23)]⟩,
  ⟨some 25, none, .bsl 4 [(.int .u32 0), (.int .u32 0), (.int .u32 0), (.int .u32 0)] [(0, 1, (.t 18)), (1, 1, (.t 20)), (2, 1, (.t 22)), (3, 1, (.t 24))]⟩,
  ⟨some 26, none, .call n_pianolakeep_put [(.t 16), (.c (.int .i64 384)), (.t 25)]⟩])
  (c3_pianolakeep_Image)
def c5_pianolakeep_Image : C :=
 .seq (.ops [⟨some 11, none, .mov (.t 5)⟩,
  ⟨some 12, none, .build [(.int .i64 0), (.int .i64 0), (.int .i64 0), (.int .i64 0), (.int .i64 0), (.int .u32 0)] [(0, 1, (.c (.int .i64 60)))]⟩,
  ⟨some 13, none, .call n_pianolakeep_word [(.t 12)]⟩,
  ⟨some 14, none, .bsl 1 [(.int .u32 0)] [(0, 1, (.t 13))]⟩,
  ⟨some 15, none, .call n_pianolakeep_put [(.t 11), (.c (.int .i64 0)), (.t 14)]⟩])
  (c4_pianolakeep_Image)
def c_pianolakeep_Image : C :=
 .seq (.ops [⟨some 4, none, .mov (.c (.slice none 0 0))⟩])
  (.seq (.ops [⟨some 8, none, .mov (.t 1)⟩,
  ⟨some 9, none, .bin .mul (.t 8) (.c (.int .i64 1024))⟩,
  ⟨some 10, none, .mks [(.int .u8 0)] 1 (.t 9) (.t 9)⟩,
  ⟨some 5, none, .mov (.t 10)⟩])
  (c5_pianolakeep_Image))
def f_pianolakeep_Image : F := ⟨c_pianolakeep_Image, [.t 4], some []⟩
theorem h_pianolakeep_Image : compF Tryz.prog (compAny Tryz.prog) n_pianolakeep_Image = some (f_pianolakeep_Image.body, f_pianolakeep_Image.res) := by kernel_rfl
def c0_pianolabook_Within : C :=
 .seq (.seq (.ops [⟨some 22, none, .mov (.t 0)⟩,
  ⟨some 23, none, .bin .lss (.t 22) (.c (.int .i64 0))⟩])
  (.cond (.t 23)
  (.ops [⟨some 24, none, .mov (.t 0)⟩,
  ⟨some 25, none, .mov (.t 2)⟩,
  ⟨some 26, none, .bin .add (.t 24) (.t 25)⟩,
  ⟨some 27, none, .mov (.t 1)⟩,
  ⟨some 28, none, .bin .sub (.t 26) (.t 27)⟩,
  ⟨some 29, none, .bin .add (.t 28) (.c (.int .i64 1))⟩,
  ⟨some 0, none, .mov (.t 29)⟩])
  (.skip)))
  (.seq (.ops [⟨some 30, none, .mov (.t 1)⟩,
  ⟨some 31, none, .mov (.t 0)⟩,
  ⟨some 32, none, .bin .add (.t 30) (.t 31)⟩,
  ⟨some 6, none, .mov (.t 32)⟩])
  (.ret))
def c1_pianolabook_Within : C :=
 .seq (.seq (.ops [⟨some 7, none, .mov (.t 0)⟩,
  ⟨some 8, none, .mov (.t 1)⟩,
  ⟨some 9, none, .bin .geq (.t 7) (.t 8)⟩,
  ⟨some 10, none, .mov (.t 9)⟩,
  ⟨some 11, some (10, true), .mov (.t 0)⟩,
  ⟨some 12, some (10, true), .mov (.t 2)⟩,
  ⟨some 13, some (10, true), .bin .leq (.t 11) (.t 12)⟩,
  ⟨some 14, none, .pick (.t 10) (.t 13) (.c (.bool false))⟩])
  (.cond (.t 14)
  (.seq (.ops [⟨some 15, none, .mov (.t 0)⟩,
  ⟨some 6, none, .mov (.t 15)⟩])
  (.ret))
  (.skip)))
  (.seq (.ops [⟨some 16, none, .mov (.t 0)⟩,
  ⟨some 17, none, .mov (.t 2)⟩,
  ⟨some 18, none, .mov (.t 1)⟩,
  ⟨some 19, none, .bin .sub (.t 17) (.t 18)⟩,
  ⟨some 20, none, .bin .add (.t 19) (.c (.int .i64 1))⟩,
  ⟨some 21, none, .bin .rem (.t 16) (.t 20)⟩,
  ⟨some 0, none, .mov (.t 21)⟩])
  (c0_pianolabook_Within))
def c_pianolabook_Within : C :=
 .seq (.ops [⟨some 6, none, .mov (.c (.int .i64 0))⟩])
  (c1_pianolabook_Within)
def f_pianolabook_Within : F := ⟨c_pianolabook_Within, [.t 6], some []⟩
theorem h_pianolabook_Within : compF Tryz.prog (compAny Tryz.prog) n_pianolabook_Within = some (f_pianolabook_Within.body, f_pianolabook_Within.res) := by kernel_rfl
def c0_block_Find : C :=
 .seq (.seq (.ops [⟨some 73, none, .mov (.t 9)⟩,
  ⟨some 74, none, .mov (.t 73)⟩,
  ⟨some 75, some (74, false), .mov (.t 15)⟩,
  ⟨some 76, some (74, false), .bin .eql (.t 75) (.c (.int .i64 6))⟩,
  ⟨some 77, none, .pick (.t 74) (.c (.bool true)) (.t 76)⟩])
  (.cond (.t 77)
  (.exit 0)
  (.skip)))
  (.ops [⟨some 78, none, .mov (.t 15)⟩,
  ⟨some 79, none, .bin .eql (.t 78) (.c (.int .i64 3))⟩,
  ⟨some 9, none, .mov (.t 79)⟩])
def c1_block_Find : C :=
 .seq (.seq (.ops [⟨some 61, none, .mov (.t 9)⟩,
  ⟨some 62, none, .mov (.t 61)⟩,
  ⟨some 63, some (62, true), .mov (.t 15)⟩,
  ⟨some 64, some (62, true), .bin .eql (.t 63) (.c (.int .i64 3))⟩,
  ⟨some 65, some (62, true), .mov (.t 64)⟩,
  ⟨some 66, some (65, false), .mov (.t 15)⟩,
  ⟨some 67, some (65, false), .bin .eql (.t 66) (.c (.int .i64 6))⟩,
  ⟨some 68, some (62, true), .pick (.t 65) (.c (.bool true)) (.t 67)⟩,
  ⟨some 69, none, .pick (.t 62) (.t 68) (.c (.bool false))⟩])
  (.cond (.t 69)
  (.exit 0)
  (.skip)))
  (.seq (.ops [⟨some 70, none, .mov (.t 12)⟩,
  ⟨some 71, none, .ldn 6 (.t 14)⟩,
  ⟨some 72, none, .call n_block_Block_add [(.t 8), (.t 70), (.t 71)]⟩])
  (c0_block_Find))
def c2_block_Find : C :=
 .seq (.ops [⟨some 57, none, .mov (.t 12)⟩,
  ⟨some 58, none, .call n_decode_Of [(.t 57)]⟩,
  ⟨some 14, none, .new [(.int .i64 0), (.int .i64 0), (.int .i64 0), (.int .i64 0), (.int .i64 0), (.int .u32 0)]⟩,
  ⟨none, none, .stn 6 (.t 14) (.t 58)⟩])
  (.seq (.ops [⟨some 59, none, .ldn 6 (.t 14)⟩,
  ⟨some 60, none, .call n_decode_Class [(.t 59)]⟩,
  ⟨some 15, none, .mov (.t 60)⟩])
  (c1_block_Find))
def c3_block_Find : C :=
 .seq (.ops [⟨some 52, none, .mov (.t 0)⟩,
  ⟨some 53, none, .mov (.t 11)⟩,
  ⟨some 54, none, .call n_ram_Ram_Load [(.t 52), (.t 53), (.c (.int .i64 4))]⟩,
  ⟨some 51, none, .mov (.t 54)⟩,
  ⟨some 55, none, .ext (.t 51) 0⟩,
  ⟨some 56, none, .ext (.t 51) 1⟩,
  ⟨some 12, none, .mov (.t 55)⟩,
  ⟨some 13, none, .mov (.t 56)⟩])
  (c2_block_Find)
def c4_block_Find : C :=
 .seq (.seq (.ops [⟨some 44, none, .mov (.t 10)⟩,
  ⟨some 45, none, .bin .gtr (.t 44) (.c (.int .i64 0))⟩,
  ⟨some 46, none, .mov (.t 45)⟩,
  ⟨some 47, some (46, true), .mov (.t 11)⟩,
  ⟨some 48, some (46, true), .bin .rem (.t 47) (.c (.int .u32 1024))⟩,
  ⟨some 49, some (46, true), .bin .eql (.t 48) (.c (.int .u32 0))⟩,
  ⟨some 50, none, .pick (.t 46) (.t 49) (.c (.bool false))⟩])
  (.cond (.t 50)
  (.exit 0)
  (.skip)))
  (c3_block_Find)
def c5_block_Find : C :=
 .seq (.block 1
  (.seq (.ops [⟨some 38, none, .mov (.t 36)⟩,
  ⟨some 10, none, .mov (.t 38)⟩])
  (.seq (.ops [⟨some 39, none, .mov (.t 1)⟩,
  ⟨some 40, none, .mov (.t 10)⟩,
  ⟨some 41, none, .bin .mul (.c (.int .i64 4)) (.t 40)⟩,
  ⟨some 42, none, .conv .u32 (.t 41)⟩,
  ⟨some 43, none, .bin .add (.t 39) (.t 42)⟩,
  ⟨some 11, none, .mov (.t 43)⟩])
  (c4_block_Find))))
  (.ops [⟨some 80, none, .bin .add (.t 36) (.c (.int .i64 1))⟩,
  ⟨some 36, none, .mov (.t 80)⟩])
def c6_block_Find : C :=
 .seq (.ops [⟨some 37, none, .bin .lss (.t 36) (.t 35)⟩])
  (.seq (.cond (.t 37)
  (.skip)
  (.exit 0))
  (c5_block_Find))
def c7_block_Find : C :=
 .seq (.ops [⟨some 9, none, .mov (.c (.bool false))⟩])
  (.seq (.skip)
  (.seq (.seq (.ops [⟨some 35, none, .mov (.t 2)⟩,
  ⟨some 36, none, .mov (.c (.int .i64 0))⟩])
  (.block 0
  (.loop c6_block_Find)))
  (.seq (.ops [⟨some 81, none, .ldn 4 (.t 8)⟩,
  ⟨none, none, .stn 4 (.t 6) (.t 81)⟩,
  ⟨some 7, none, .mov (.c (.bool true))⟩])
  (.ret))))
def c8_block_Find : C :=
 .seq (.ops [⟨some 30, none, .mov (.t 1)⟩,
  ⟨some 31, none, .build [(.int .u32 0), (.slice none 0 0), (.slice none 0 0), (.slice none 0 0)] [(0, 1, (.t 30))]⟩,
  ⟨some 8, none, .new [(.int .u32 0), (.slice none 0 0), (.slice none 0 0), (.slice none 0 0)]⟩,
  ⟨none, none, .stn 4 (.t 8) (.t 31)⟩])
  (.seq (.ops [⟨some 32, none, .mov (.t 2)⟩,
  ⟨some 33, none, .mn (.t 32) (.c (.int .i64 32))⟩,
  ⟨some 34, none, .mx (.c (.int .i64 1)) (.t 33)⟩,
  ⟨some 2, none, .mov (.t 34)⟩])
  (c7_block_Find))
def c9_block_Find : C :=
 .seq (.seq (.ops [⟨some 16, none, .mov (.t 0)⟩,
  ⟨some 17, none, .eqn 0 false (.t 16)⟩,
  ⟨some 18, none, .mov (.t 17)⟩,
  ⟨some 19, some (18, false), .mov (.t 1)⟩,
  ⟨some 20, some (18, false), .bin .rem (.t 19) (.c (.int .u32 4))⟩,
  ⟨some 21, some (18, false), .bin .neq (.t 20) (.c (.int .u32 0))⟩,
  ⟨some 22, none, .pick (.t 18) (.c (.bool true)) (.t 21)⟩,
  ⟨some 23, none, .mov (.t 22)⟩,
  ⟨some 24, some (23, false), .mov (.t 1)⟩,
  ⟨some 25, some (23, false), .mov (.t 0)⟩,
  ⟨some 26, some (23, false), .call n_ram_Ram_Size [(.t 25)]⟩,
  ⟨some 27, some (23, false), .bin .geq (.t 24) (.t 26)⟩,
  ⟨some 28, none, .pick (.t 23) (.c (.bool true)) (.t 27)⟩])
  (.cond (.t 28)
  (.seq (.ops [⟨some 29, none, .build [(.int .u32 0), (.slice none 0 0), (.slice none 0 0), (.slice none 0 0)] []⟩,
  ⟨none, none, .stn 4 (.t 6) (.t 29)⟩,
  ⟨some 7, none, .mov (.c (.bool false))⟩])
  (.ret))
  (.skip)))
  (c8_block_Find)
def c_block_Find : C :=
 .seq (.ops [⟨some 6, none, .new [(.int .u32 0), (.slice none 0 0), (.slice none 0 0), (.slice none 0 0)]⟩,
  ⟨some 7, none, .mov (.c (.bool false))⟩])
  (c9_block_Find)
def f_block_Find : F := ⟨c_block_Find, [.ldn 4 6, .t 7], some []⟩
theorem h_block_Find : compF Tryz.prog (compAny Tryz.prog) n_block_Find = some (f_block_Find.body, f_block_Find.res) := by kernel_rfl
def c0_ram_Ram_Load : C :=
 .seq (.block 1
  (.seq (.ops [⟨some 29, none, .ia 1 (.t 25) (.t 27)⟩,
  ⟨some 30, none, .ld (.t 29)⟩,
  ⟨some 10, none, .mov (.t 30)⟩])
  (.ops [⟨some 31, none, .mov (.t 8)⟩,
  ⟨some 32, none, .bin .shl (.t 31) (.c (.int .u64 8))⟩,
  ⟨some 33, none, .mov (.t 10)⟩,
  ⟨some 34, none, .conv .u32 (.t 33)⟩,
  ⟨some 35, none, .bin .or (.t 32) (.t 34)⟩,
  ⟨some 8, none, .mov (.t 35)⟩])))
  (.ops [⟨some 36, none, .bin .add (.t 27) (.c (.int .i64 1))⟩,
  ⟨some 27, none, .mov (.t 36)⟩])
def c1_ram_Ram_Load : C :=
 .seq (.ops [⟨some 28, none, .bin .lss (.t 27) (.t 26)⟩])
  (.seq (.cond (.t 28)
  (.skip)
  (.exit 0))
  (c0_ram_Ram_Load))
def c2_ram_Ram_Load : C :=
 .seq (.seq (.ops [⟨some 16, none, .mov (.t 0)⟩,
  ⟨some 17, none, .nilc (.t 16)⟩,
  ⟨some 18, none, .fa 0 (.t 17)⟩,
  ⟨some 19, none, .ld (.t 18)⟩,
  ⟨some 20, none, .mov (.t 1)⟩,
  ⟨some 21, none, .mov (.t 1)⟩,
  ⟨some 22, none, .conv .i64 (.t 21)⟩,
  ⟨some 23, none, .mov (.t 2)⟩,
  ⟨some 24, none, .bin .add (.t 22) (.t 23)⟩,
  ⟨some 25, none, .sl 1 (.t 19) (some (.t 20)) (some (.t 24)) none⟩,
  ⟨some 26, none, .len 1 (.t 25)⟩,
  ⟨some 27, none, .mov (.c (.int .i64 0))⟩])
  (.block 0
  (.loop c1_ram_Ram_Load)))
  (.seq (.ops [⟨some 37, none, .mov (.t 8)⟩,
  ⟨some 6, none, .mov (.t 37)⟩,
  ⟨some 7, none, .mov (.c (.bool true))⟩])
  (.ret))
def c3_ram_Ram_Load : C :=
 .seq (.seq (.ops [⟨some 11, none, .mov (.t 0)⟩,
  ⟨some 12, none, .mov (.t 1)⟩,
  ⟨some 13, none, .mov (.t 2)⟩,
  ⟨some 14, none, .call n_ram_Ram_even [(.t 11), (.t 12), (.t 13)]⟩,
  ⟨some 15, none, .un .not (.t 14)⟩])
  (.cond (.t 15)
  (.seq (.ops [⟨some 6, none, .mov (.c (.int .u32 0))⟩,
  ⟨some 7, none, .mov (.c (.bool false))⟩])
  (.ret))
  (.skip)))
  (.seq (.ops [⟨some 8, none, .mov (.c (.int .u32 0))⟩])
  (c2_ram_Ram_Load))
def c_ram_Ram_Load : C :=
 .seq (.ops [⟨some 6, none, .mov (.c (.int .u32 0))⟩,
  ⟨some 7, none, .mov (.c (.bool false))⟩])
  (c3_ram_Ram_Load)
def f_ram_Ram_Load : F := ⟨c_ram_Ram_Load, [.t 6, .t 7], some []⟩
theorem h_ram_Ram_Load : compF Tryz.prog (compAny Tryz.prog) n_ram_Ram_Load = some (f_ram_Ram_Load.body, f_ram_Ram_Load.res) := by kernel_rfl
def c0_ram_Ram_Store : C :=
 .any 0 [.op 0 ⟨some 19, none, .mov (.t 0)⟩,
  .op 1 ⟨some 20, none, .nilc (.t 19)⟩,
  .op 2 ⟨some 21, none, .fa 0 (.t 20)⟩,
  .op 3 ⟨some 22, none, .ld (.t 21)⟩,
  .op 4 ⟨some 23, none, .mov (.t 1)⟩,
  .op 5 ⟨some 24, none, .conv .i64 (.t 23)⟩,
  .op 6 ⟨some 25, none, .mov (.t 2)⟩,
  .op 7 ⟨some 26, none, .bin .add (.t 24) (.t 25)⟩,
  .op 8 ⟨some 27, none, .bin .sub (.t 26) (.c (.int .i64 1))⟩,
  .op 9 ⟨some 28, none, .mov (.t 9)⟩,
  .op 10 ⟨some 29, none, .bin .sub (.t 27) (.t 28)⟩,
  .op 11 ⟨some 30, none, .mov (.t 3)⟩,
  .op 12 ⟨some 31, none, .mov (.t 9)⟩,
  .op 13 ⟨some 32, none, .bin .mul (.c (.int .i64 8)) (.t 31)⟩,
  .op 14 ⟨some 33, none, .bin .shr (.t 30) (.t 32)⟩,
  .op 15 ⟨some 34, none, .conv .u8 (.t 33)⟩,
  .op 16 ⟨some 35, none, .ia 1 (.t 22) (.t 29)⟩,
  .op 17 ⟨none, none, .st (.t 35) (.t 34)⟩]
def c1_ram_Ram_Store : C :=
 .seq (.ops [⟨some 17, none, .bin .lss (.t 16) (.t 15)⟩])
  (.seq (.cond (.t 17)
  (.skip)
  (.exit 0))
  (.seq (.block 1
  (.seq (.ops [⟨some 18, none, .mov (.t 16)⟩,
  ⟨some 9, none, .mov (.t 18)⟩])
  (c0_ram_Ram_Store)))
  (.ops [⟨some 36, none, .bin .add (.t 16) (.c (.int .i64 1))⟩,
  ⟨some 16, none, .mov (.t 36)⟩])))
def c2_ram_Ram_Store : C :=
 .seq (.seq (.ops [⟨some 15, none, .mov (.t 2)⟩,
  ⟨some 16, none, .mov (.c (.int .i64 0))⟩])
  (.block 0
  (.loop c1_ram_Ram_Store)))
  (.seq (.ops [⟨some 37, none, .mov (.t 0)⟩,
  ⟨some 38, none, .mov (.t 1)⟩,
  ⟨some 39, none, .mov (.t 2)⟩,
  ⟨some 40, none, .call n_ram_Ram_touch [(.t 37), (.t 38), (.t 39)]⟩])
  (.seq (.ops [⟨some 8, none, .mov (.c (.bool true))⟩])
  (.ret)))
def c3_ram_Ram_Store : C :=
 .seq (.seq (.ops [⟨some 10, none, .mov (.t 0)⟩,
  ⟨some 11, none, .mov (.t 1)⟩,
  ⟨some 12, none, .mov (.t 2)⟩,
  ⟨some 13, none, .call n_ram_Ram_even [(.t 10), (.t 11), (.t 12)]⟩,
  ⟨some 14, none, .un .not (.t 13)⟩])
  (.cond (.t 14)
  (.seq (.ops [⟨some 8, none, .mov (.c (.bool false))⟩])
  (.ret))
  (.skip)))
  (c2_ram_Ram_Store)
def c_ram_Ram_Store : C :=
 .seq (.ops [⟨some 8, none, .mov (.c (.bool false))⟩])
  (c3_ram_Ram_Store)
def f_ram_Ram_Store : F := ⟨c_ram_Ram_Store, [.t 8], some []⟩
theorem h_ram_Ram_Store : compF Tryz.prog (compAny Tryz.prog) n_ram_Ram_Store = some (f_ram_Ram_Store.body, f_ram_Ram_Store.res) := by kernel_rfl
def c0_block_Same : C :=
 .seq (.ops [⟨some 30, none, .mov (.t 8)⟩,
  ⟨some 31, none, .un .not (.t 30)⟩,
  ⟨some 32, none, .mov (.t 31)⟩,
  ⟨some 33, some (32, false), .mov (.t 7)⟩,
  ⟨some 34, some (32, false), .mov (.t 6)⟩,
  ⟨some 35, some (32, false), .bin .neq (.t 33) (.t 34)⟩,
  ⟨some 36, none, .pick (.t 32) (.c (.bool true)) (.t 35)⟩])
  (.cond (.t 36)
  (.seq (.ops [⟨some 4, none, .mov (.c (.bool false))⟩])
  (.ret))
  (.skip))
def c1_block_Same : C :=
 .seq (.ops [⟨some 20, none, .mov (.t 1)⟩,
  ⟨some 21, none, .fa 0 (.t 2)⟩,
  ⟨some 22, none, .ld (.t 21)⟩,
  ⟨some 23, none, .mov (.t 5)⟩,
  ⟨some 24, none, .bin .mul (.c (.int .i64 4)) (.t 23)⟩,
  ⟨some 25, none, .conv .u32 (.t 24)⟩,
  ⟨some 26, none, .bin .add (.t 22) (.t 25)⟩,
  ⟨some 27, none, .call n_ram_Ram_Load [(.t 20), (.t 26), (.c (.int .i64 4))]⟩,
  ⟨some 19, none, .mov (.t 27)⟩,
  ⟨some 28, none, .ext (.t 19) 0⟩,
  ⟨some 29, none, .ext (.t 19) 1⟩,
  ⟨some 7, none, .mov (.t 28)⟩,
  ⟨some 8, none, .mov (.t 29)⟩])
  (c0_block_Same)
def c2_block_Same : C :=
 .seq (.block 1
  (.seq (.ops [⟨some 16, none, .mov (.t 14)⟩,
  ⟨some 17, none, .ia 1 (.t 12) (.t 14)⟩,
  ⟨some 18, none, .ld (.t 17)⟩,
  ⟨some 5, none, .mov (.t 16)⟩,
  ⟨some 6, none, .mov (.t 18)⟩])
  (c1_block_Same)))
  (.ops [⟨some 37, none, .bin .add (.t 14) (.c (.int .i64 1))⟩,
  ⟨some 14, none, .mov (.t 37)⟩])
def c3_block_Same : C :=
 .seq (.ops [⟨some 15, none, .bin .lss (.t 14) (.t 13)⟩])
  (.seq (.cond (.t 15)
  (.skip)
  (.exit 0))
  (c2_block_Same))
def c4_block_Same : C :=
 .seq (.seq (.ops [⟨some 9, none, .mov (.t 1)⟩,
  ⟨some 10, none, .eqn 0 false (.t 9)⟩])
  (.cond (.t 10)
  (.seq (.ops [⟨some 4, none, .mov (.c (.bool false))⟩])
  (.ret))
  (.skip)))
  (.seq (.seq (.ops [⟨some 11, none, .fa 1 (.t 2)⟩,
  ⟨some 12, none, .ld (.t 11)⟩,
  ⟨some 13, none, .len 1 (.t 12)⟩,
  ⟨some 14, none, .mov (.c (.int .i64 0))⟩])
  (.block 0
  (.loop c3_block_Same)))
  (.seq (.ops [⟨some 4, none, .mov (.c (.bool true))⟩])
  (.ret)))
def c_block_Same : C :=
 .seq (.ops [⟨some 2, none, .box (.t 0)⟩,
  ⟨some 4, none, .mov (.c (.bool false))⟩])
  (c4_block_Same)
def f_block_Same : F := ⟨c_block_Same, [.t 4], some []⟩
theorem h_block_Same : compF Tryz.prog (compAny Tryz.prog) n_block_Same = some (f_block_Same.body, f_block_Same.res) := by kernel_rfl
def c0_ram_New : C :=
 .seq (.any 4 [.op 0 ⟨some 7, none, .mov (.t 3)⟩,
  .op 1 ⟨some 8, none, .bin .mul (.t 7) (.c (.int .i64 1024))⟩,
  .al 2 0 ⟨some 9, none, .mks [(.int .u8 0)] 1 (.t 8) (.t 8)⟩,
  .op 3 ⟨some 10, none, .mov (.t 3)⟩,
  .al 4 1 ⟨some 11, none, .mks [(.bool false)] 1 (.t 10) (.t 10)⟩,
  .op 5 ⟨some 12, none, .mov (.t 3)⟩,
  .al 6 2 ⟨some 13, none, .mks [(.bool false)] 1 (.t 12) (.t 12)⟩,
  .op 7 ⟨some 14, none, .build [(.slice none 0 0), (.slice none 0 0), (.slice none 0 0)] [(0, 1, (.t 9)), (1, 1, (.t 11)), (2, 1, (.t 13))]⟩,
  .al 8 3 ⟨some 15, none, .box (.t 14)⟩,
  .op 9 ⟨some 2, none, .mov (.t 15)⟩])
  (.ret)
def c_ram_New : C :=
 .seq (.ops [⟨some 2, none, .mov (.c (.pointer none))⟩])
  (.seq (.ops [⟨some 4, none, .mov (.t 0)⟩,
  ⟨some 5, none, .mn (.t 4) (.c (.int .i64 64))⟩,
  ⟨some 6, none, .mx (.c (.int .i64 1)) (.t 5)⟩,
  ⟨some 3, none, .mov (.t 6)⟩])
  (c0_ram_New))
def f_ram_New : F := ⟨c_ram_New, [.t 2], some []⟩
theorem h_ram_New : compF Tryz.prog (compAny Tryz.prog) n_ram_New = some (f_ram_New.body, f_ram_New.res) := by kernel_rfl
def c0_pianolaref2_New : C :=
 .seq (.any 4 [.op 0 ⟨some 7, none, .mov (.t 3)⟩,
  .op 1 ⟨some 8, none, .bin .mul (.t 7) (.c (.int .i64 1024))⟩,
  .al 2 0 ⟨some 9, none, .mks [(.int .u8 0)] 1 (.t 8) (.t 8)⟩,
  .op 3 ⟨some 10, none, .mov (.t 3)⟩,
  .al 4 1 ⟨some 11, none, .mks [(.bool false)] 1 (.t 10) (.t 10)⟩,
  .op 5 ⟨some 12, none, .mov (.t 3)⟩,
  .al 6 2 ⟨some 13, none, .mks [(.bool false)] 1 (.t 12) (.t 12)⟩,
  .op 7 ⟨some 14, none, .build [(.slice none 0 0), (.slice none 0 0), (.slice none 0 0)] [(0, 1, (.t 9)), (1, 1, (.t 11)), (2, 1, (.t 13))]⟩,
  .al 8 3 ⟨some 15, none, .box (.t 14)⟩,
  .op 9 ⟨some 2, none, .mov (.t 15)⟩])
  (.ret)
def c_pianolaref2_New : C :=
 .seq (.ops [⟨some 2, none, .mov (.c (.pointer none))⟩])
  (.seq (.ops [⟨some 4, none, .mov (.t 0)⟩,
  ⟨some 5, none, .mn (.t 4) (.c (.int .i64 64))⟩,
  ⟨some 6, none, .mx (.t 5) (.c (.int .i64 1))⟩,
  ⟨some 3, none, .mov (.t 6)⟩])
  (c0_pianolaref2_New))
def f_pianolaref2_New : F := ⟨c_pianolaref2_New, [.t 2], some []⟩
theorem h_pianolaref2_New : compF Tryz.prog (compAny Tryz.prog) n_pianolaref2_New = some (f_pianolaref2_New.body, f_pianolaref2_New.res) := by kernel_rfl
def c0_ram_Ram_Put : C :=
 .seq (.ops [⟨some 13, none, .mov (.t 0)⟩,
  ⟨some 14, none, .nilc (.t 13)⟩,
  ⟨some 15, none, .fa 0 (.t 14)⟩,
  ⟨some 16, none, .ld (.t 15)⟩,
  ⟨some 17, none, .mov (.t 1)⟩,
  ⟨some 18, none, .sl 1 (.t 16) (some (.t 17)) none none⟩,
  ⟨some 19, none, .mov (.t 2)⟩,
  ⟨some 20, none, .cpy 1 (.t 18) (.t 19)⟩])
  (.seq (.ops [⟨some 21, none, .mov (.t 0)⟩,
  ⟨some 22, none, .mov (.t 1)⟩,
  ⟨some 23, none, .mov (.t 2)⟩,
  ⟨some 24, none, .len 1 (.t 23)⟩,
  ⟨some 25, none, .call n_ram_Ram_touch [(.t 21), (.t 22), (.t 24)]⟩])
  (.seq (.ops [⟨some 6, none, .mov (.c (.bool true))⟩])
  (.ret)))
def c1_ram_Ram_Put : C :=
 .seq (.seq (.ops [⟨some 7, none, .mov (.t 0)⟩,
  ⟨some 8, none, .mov (.t 1)⟩,
  ⟨some 9, none, .mov (.t 2)⟩,
  ⟨some 10, none, .len 1 (.t 9)⟩,
  ⟨some 11, none, .call n_ram_Ram_there [(.t 7), (.t 8), (.t 10)]⟩,
  ⟨some 12, none, .un .not (.t 11)⟩])
  (.cond (.t 12)
  (.seq (.ops [⟨some 6, none, .mov (.c (.bool false))⟩])
  (.ret))
  (.skip)))
  (c0_ram_Ram_Put)
def c_ram_Ram_Put : C :=
 .seq (.ops [⟨some 6, none, .mov (.c (.bool false))⟩])
  (c1_ram_Ram_Put)
def f_ram_Ram_Put : F := ⟨c_ram_Ram_Put, [.t 6], some []⟩
theorem h_ram_Ram_Put : compF Tryz.prog (compAny Tryz.prog) n_ram_Ram_Put = some (f_ram_Ram_Put.body, f_ram_Ram_Put.res) := by kernel_rfl
def c0_pianolaref2_Ram_Put : C :=
 .seq (.ops [⟨some 13, none, .mov (.t 0)⟩,
  ⟨some 14, none, .nilc (.t 13)⟩,
  ⟨some 15, none, .fa 0 (.t 14)⟩,
  ⟨some 16, none, .ld (.t 15)⟩,
  ⟨some 17, none, .mov (.t 1)⟩,
  ⟨some 18, none, .sl 1 (.t 16) (some (.t 17)) none none⟩,
  ⟨some 19, none, .mov (.t 2)⟩,
  ⟨some 20, none, .cpy 1 (.t 18) (.t 19)⟩])
  (.seq (.ops [⟨some 21, none, .mov (.t 0)⟩,
  ⟨some 22, none, .mov (.t 1)⟩,
  ⟨some 23, none, .mov (.t 2)⟩,
  ⟨some 24, none, .len 1 (.t 23)⟩,
  ⟨some 25, none, .call n_pianolaref2_Ram_touch [(.t 21), (.t 22), (.t 24)]⟩])
  (.seq (.ops [⟨some 6, none, .mov (.c (.bool true))⟩])
  (.ret)))
def c1_pianolaref2_Ram_Put : C :=
 .seq (.seq (.ops [⟨some 7, none, .mov (.t 0)⟩,
  ⟨some 8, none, .mov (.t 1)⟩,
  ⟨some 9, none, .mov (.t 2)⟩,
  ⟨some 10, none, .len 1 (.t 9)⟩,
  ⟨some 11, none, .call n_pianolaref2_Ram_In [(.t 7), (.t 8), (.t 10)]⟩,
  ⟨some 12, none, .un .not (.t 11)⟩])
  (.cond (.t 12)
  (.seq (.ops [⟨some 6, none, .mov (.c (.bool false))⟩])
  (.ret))
  (.skip)))
  (c0_pianolaref2_Ram_Put)
def c_pianolaref2_Ram_Put : C :=
 .seq (.ops [⟨some 6, none, .mov (.c (.bool false))⟩])
  (c1_pianolaref2_Ram_Put)
def f_pianolaref2_Ram_Put : F := ⟨c_pianolaref2_Ram_Put, [.t 6], some []⟩
theorem h_pianolaref2_Ram_Put : compF Tryz.prog (compAny Tryz.prog) n_pianolaref2_Ram_Put = some (f_pianolaref2_Ram_Put.body, f_pianolaref2_Ram_Put.res) := by kernel_rfl
end Go.Proofs.YtmgoleiafiffoaaGreat.Cd

set_option maxRecDepth 100000
set_option linter.defProp false
namespace Go.Proofs.YtmgoleiafiffoaaGreat.Cd
open Go Go.Dx
def c_block_Block_Page : C :=
 .seq (.ops [⟨some 1, none, .box (.t 0)⟩,
  ⟨some 2, none, .mov (.c (.int .i64 0))⟩])
  (.seq (.ops [⟨some 3, none, .fa 0 (.t 1)⟩,
  ⟨some 4, none, .ld (.t 3)⟩,
  ⟨some 5, none, .bin .quo (.t 4) (.c (.int .u32 1024))⟩,
  ⟨some 6, none, .conv .i64 (.t 5)⟩,
  ⟨some 2, none, .mov (.t 6)⟩])
  (.ret))
def f_block_Block_Page : F := ⟨c_block_Block_Page, [.t 2], some []⟩
theorem h_block_Block_Page : compF Tryz.prog (compAny Tryz.prog) n_block_Block_Page = some (f_block_Block_Page.body, f_block_Block_Page.res) := by kernel_rfl
def c0_pianolakeep_put : C :=
 .seq (.block 3
  (.ops [⟨some 28, none, .mov (.t 0)⟩,
  ⟨some 29, none, .mov (.t 1)⟩,
  ⟨some 30, none, .mov (.t 6)⟩,
  ⟨some 31, none, .bin .mul (.c (.int .i64 4)) (.t 30)⟩,
  ⟨some 32, none, .bin .add (.t 29) (.t 31)⟩,
  ⟨some 33, none, .mov (.t 7)⟩,
  ⟨some 34, none, .bin .add (.t 32) (.t 33)⟩,
  ⟨some 35, none, .mov (.t 2)⟩,
  ⟨some 36, none, .mov (.t 6)⟩,
  ⟨some 37, none, .ia 1 (.t 35) (.t 36)⟩,
  ⟨some 38, none, .ld (.t 37)⟩,
  ⟨some 39, none, .mov (.t 7)⟩,
  ⟨some 40, none, .bin .mul (.c (.int .i64 8)) (.t 39)⟩,
  ⟨some 41, none, .bin .sub (.c (.int .i64 24)) (.t 40)⟩,
  ⟨some 42, none, .conv .u64 (.t 41)⟩,
  ⟨some 43, none, .bin .shr (.t 38) (.t 42)⟩,
  ⟨some 44, none, .conv .u8 (.t 43)⟩,
  ⟨some 45, none, .ia 1 (.t 28) (.t 34)⟩,
  ⟨none, none, .st (.t 45) (.t 44)⟩]))
  (.ops [⟨some 26, none, .mov (.t 7)⟩,
  ⟨some 27, none, .bin .add (.t 26) (.c (.int .i64 1))⟩,
  ⟨some 7, none, .mov (.t 27)⟩])
def c1_pianolakeep_put : C :=
 .seq (.seq (.ops [⟨some 24, none, .mov (.t 7)⟩,
  ⟨some 25, none, .bin .lss (.t 24) (.c (.int .i64 4))⟩])
  (.cond (.t 25)
  (.skip)
  (.exit 2)))
  (c0_pianolakeep_put)
def c2_pianolakeep_put : C :=
 .seq (.seq (.ops [⟨some 8, none, .mov (.t 6)⟩,
  ⟨some 9, none, .mov (.t 2)⟩,
  ⟨some 10, none, .len 1 (.t 9)⟩,
  ⟨some 11, none, .bin .lss (.t 8) (.t 10)⟩,
  ⟨some 12, none, .mov (.t 11)⟩,
  ⟨some 13, some (12, true), .mov (.t 1)⟩,
  ⟨some 14, some (12, true), .mov (.t 6)⟩,
  ⟨some 15, some (12, true), .bin .mul (.c (.int .i64 4)) (.t 14)⟩,
  ⟨some 16, some (12, true), .bin .add (.t 13) (.t 15)⟩,
  ⟨some 17, some (12, true), .bin .add (.t 16) (.c (.int .i64 4))⟩,
  ⟨some 18, some (12, true), .mov (.t 0)⟩,
  ⟨some 19, some (12, true), .len 1 (.t 18)⟩,
  ⟨some 20, some (12, true), .bin .leq (.t 17) (.t 19)⟩,
  ⟨some 21, none, .pick (.t 12) (.t 20) (.c (.bool false))⟩])
  (.cond (.t 21)
  (.skip)
  (.exit 0)))
  (.seq (.block 1
  (.seq (.ops [⟨some 7, none, .mov (.c (.int .i64 0))⟩])
  (.block 2
  (.loop c1_pianolakeep_put))))
  (.ops [⟨some 22, none, .mov (.t 6)⟩,
  ⟨some 23, none, .bin .add (.t 22) (.c (.int .i64 1))⟩,
  ⟨some 6, none, .mov (.t 23)⟩]))
def c_pianolakeep_put : C :=
 .seq (.ops [⟨some 6, none, .mov (.c (.int .i64 0))⟩])
  (.block 0
  (.loop c2_pianolakeep_put))
def f_pianolakeep_put : F := ⟨c_pianolakeep_put, [], some []⟩
theorem h_pianolakeep_put : compF Tryz.prog (compAny Tryz.prog) n_pianolakeep_put = some (f_pianolakeep_put.body, f_pianolakeep_put.res) := by kernel_rfl
def c0_pianolakeep_word : C :=
 .seq (.ops [⟨some 6, none, .ldn 6 (.t 1)⟩,
  ⟨some 7, none, .call n_pianolaref3_Word [(.t 6)]⟩,
  ⟨some 5, none, .mov (.t 7)⟩,
  ⟨some 8, none, .ext (.t 5) 0⟩,
  ⟨some 9, none, .ext (.t 5) 1⟩,
  ⟨some 3, none, .mov (.t 8)⟩,
  ⟨some 4, none, .mov (.t 9)⟩])
  (.seq (.ops [⟨some 10, none, .mov (.t 3)⟩,
  ⟨some 2, none, .mov (.t 10)⟩])
  (.ret))
def c_pianolakeep_word : C :=
 .seq (.ops [⟨some 1, none, .box (.t 0)⟩,
  ⟨some 2, none, .mov (.c (.int .u32 0))⟩])
  (c0_pianolakeep_word)
def f_pianolakeep_word : F := ⟨c_pianolakeep_word, [.t 2], some []⟩
theorem h_pianolakeep_word : compF Tryz.prog (compAny Tryz.prog) n_pianolakeep_word = some (f_pianolakeep_word.body, f_pianolakeep_word.res) := by kernel_rfl
def c0_pianolakeep_Code : C :=
 .seq (.ops [⟨some 42, none, .fa 1 (.t 1)⟩,
  ⟨some 43, none, .ld (.t 42)⟩,
  ⟨some 44, none, .bin .and (.t 43) (.c (.int .i64 3))⟩,
  ⟨some 45, none, .bin .add (.c (.int .i64 28)) (.t 44)⟩,
  ⟨some 46, none, .fa 1 (.t 4)⟩,
  ⟨none, none, .st (.t 46) (.t 45)⟩])
  (.ops [⟨some 47, none, .fa 5 (.t 4)⟩,
  ⟨some 48, none, .ld (.t 47)⟩,
  ⟨some 49, none, .bin .and (.t 48) (.c (.int .u32 2044))⟩,
  ⟨some 50, none, .fa 5 (.t 4)⟩,
  ⟨none, none, .st (.t 50) (.t 49)⟩])
def c1_pianolakeep_Code : C :=
 .seq (.any 0 [.op 0 ⟨some 32, none, .ldn 7 (.t 1)⟩,
  .op 1 ⟨some 33, none, .mov (.t 5)⟩,
  .op 2 ⟨some 34, none, .mov (.t 3)⟩,
  .op 3 ⟨some 35, none, .bin .quo (.t 34) (.c (.int .i64 16))⟩,
  .op 4 ⟨some 36, none, .mov (.t 5)⟩,
  .op 5 ⟨some 37, none, .len 1 (.t 36)⟩,
  .op 6 ⟨some 38, none, .bin .rem (.t 35) (.t 37)⟩,
  .op 7 ⟨some 39, none, .ia 1 (.t 33) (.t 38)⟩,
  .op 8 ⟨some 40, none, .ld (.t 39)⟩,
  .op 9 ⟨some 41, none, .call n_pianolakeep_Inst [(.t 32), (.t 40)]⟩,
  .op 10 ⟨none, none, .stn 6 (.t 4) (.t 41)⟩])
  (c0_pianolakeep_Code)
def c2_pianolakeep_Code : C :=
 .seq (.ops [⟨some 31, none, .bsl 12 (List.replicate 12 (.int .i64 0)) [(0, 1, (.c (.int .i64 66))), (1, 1, (.c (.int .i64 67))), (2, 1, (.c (.int .i64 68))), (3, 1, (.c (.int .i64 69))), (4, 1, (.c (.int .i64 70))), (5, 1, (.c (.int .i64 71))), (6, 1, (.c (.int .i64 72))), (7, 1, (.c (.int .i64 73))), (8, 1, (.c (.int .i64 74))), (9, 1, (.c (.int .i64 75))), (10, 1, (.c (.int .i64 73))), (11, 1, (.c (.int .i64 68)))]⟩,
  ⟨some 5, none, .mov (.t 31)⟩])
  (c1_pianolakeep_Code)
def c3_pianolakeep_Code : C :=
 .ops [⟨some 65, none, .fa 5 (.t 1)⟩,
  ⟨some 66, none, .ld (.t 65)⟩,
  ⟨some 67, none, .bin .rem (.t 66) (.c (.int .u32 16))⟩,
  ⟨some 68, none, .conv .i32 (.t 67)⟩,
  ⟨some 69, none, .bin .sub (.t 68) (.c (.int .i32 6))⟩,
  ⟨some 70, none, .conv .u32 (.t 69)⟩,
  ⟨some 71, none, .bin .and (.t 70) (.c (.int .u32 65535))⟩,
  ⟨some 72, none, .fa 5 (.t 4)⟩,
  ⟨none, none, .st (.t 72) (.t 71)⟩]
def c4_pianolakeep_Code : C :=
 .seq (.any 0 [.op 0 ⟨some 55, none, .ldn 7 (.t 1)⟩,
  .op 1 ⟨some 56, none, .mov (.t 6)⟩,
  .op 2 ⟨some 57, none, .mov (.t 3)⟩,
  .op 3 ⟨some 58, none, .bin .quo (.t 57) (.c (.int .i64 16))⟩,
  .op 4 ⟨some 59, none, .mov (.t 6)⟩,
  .op 5 ⟨some 60, none, .len 1 (.t 59)⟩,
  .op 6 ⟨some 61, none, .bin .rem (.t 58) (.t 60)⟩,
  .op 7 ⟨some 62, none, .ia 1 (.t 56) (.t 61)⟩,
  .op 8 ⟨some 63, none, .ld (.t 62)⟩,
  .op 9 ⟨some 64, none, .call n_pianolakeep_Inst [(.t 55), (.t 63)]⟩,
  .op 10 ⟨none, none, .stn 6 (.t 4) (.t 64)⟩])
  (c3_pianolakeep_Code)
def c5_pianolakeep_Code : C :=
 .seq (.ops [⟨some 54, none, .bsl 8 [(.int .i64 0), (.int .i64 0), (.int .i64 0), (.int .i64 0), (.int .i64 0), (.int .i64 0), (.int .i64 0), (.int .i64 0)] [(0, 1, (.c (.int .i64 42))), (1, 1, (.c (.int .i64 43))), (2, 1, (.c (.int .i64 44))), (3, 1, (.c (.int .i64 45))), (4, 1, (.c (.int .i64 36))), (5, 1, (.c (.int .i64 37))), (6, 1, (.c (.int .i64 39))), (7, 1, (.c (.int .i64 42)))]⟩,
  ⟨some 6, none, .mov (.t 54)⟩])
  (c4_pianolakeep_Code)
def c6_pianolakeep_Code : C :=
 .ops [⟨some 94, none, .bsl 8 [(.int .i64 0), (.int .i64 0), (.int .i64 0), (.int .i64 0), (.int .i64 0), (.int .i64 0), (.int .i64 0), (.int .i64 0)] [(0, 1, (.c (.int .i64 12))), (1, 1, (.c (.int .i64 13))), (2, 1, (.c (.int .i64 11))), (3, 1, (.c (.int .i64 9))), (4, 1, (.c (.int .i64 10))), (5, 1, (.c (.int .i64 2))), (6, 1, (.c (.int .i64 0))), (7, 1, (.c (.int .i64 14)))]⟩,
  ⟨some 95, none, .fa 3 (.t 1)⟩,
  ⟨some 96, none, .ld (.t 95)⟩,
  ⟨some 97, none, .bin .and (.t 96) (.c (.int .i64 7))⟩,
  ⟨some 98, none, .ia 1 (.t 94) (.t 97)⟩,
  ⟨some 99, none, .ld (.t 98)⟩,
  ⟨some 100, none, .fa 3 (.t 4)⟩,
  ⟨none, none, .st (.t 100) (.t 99)⟩]
def c7_pianolakeep_Code : C :=
 .seq (.ops [⟨some 86, none, .fa 0 (.t 4)⟩,
  ⟨some 87, none, .ld (.t 86)⟩,
  ⟨some 88, none, .bin .eql (.t 87) (.c (.int .i64 55))⟩,
  ⟨some 89, none, .mov (.t 88)⟩,
  ⟨some 90, some (89, false), .fa 0 (.t 4)⟩,
  ⟨some 91, some (89, false), .ld (.t 90)⟩,
  ⟨some 92, some (89, false), .bin .eql (.t 91) (.c (.int .i64 54))⟩,
  ⟨some 93, none, .pick (.t 89) (.c (.bool true)) (.t 92)⟩])
  (.cond (.t 93)
  (c6_pianolakeep_Code)
  (.skip))
def c8_pianolakeep_Code : C :=
 .seq (.any 0 [.op 0 ⟨some 76, none, .ldn 7 (.t 1)⟩,
  .op 1 ⟨some 77, none, .mov (.t 7)⟩,
  .op 2 ⟨some 78, none, .mov (.t 3)⟩,
  .op 3 ⟨some 79, none, .bin .quo (.t 78) (.c (.int .i64 16))⟩,
  .op 4 ⟨some 80, none, .mov (.t 7)⟩,
  .op 5 ⟨some 81, none, .len 1 (.t 80)⟩,
  .op 6 ⟨some 82, none, .bin .rem (.t 79) (.t 81)⟩,
  .op 7 ⟨some 83, none, .ia 1 (.t 77) (.t 82)⟩,
  .op 8 ⟨some 84, none, .ld (.t 83)⟩,
  .op 9 ⟨some 85, none, .call n_pianolakeep_Inst [(.t 76), (.t 84)]⟩,
  .op 10 ⟨none, none, .stn 6 (.t 4) (.t 85)⟩])
  (c7_pianolakeep_Code)
def c9_pianolakeep_Code : C :=
 .seq (.ops [⟨some 75, none, .bsl 10 (List.replicate 10 (.int .i64 0)) [(0, 1, (.c (.int .i64 55))), (1, 1, (.c (.int .i64 54))), (2, 1, (.c (.int .i64 55))), (3, 1, (.c (.int .i64 57))), (4, 1, (.c (.int .i64 59))), (5, 1, (.c (.int .i64 56))), (6, 1, (.c (.int .i64 58))), (7, 1, (.c (.int .i64 60))), (8, 1, (.c (.int .i64 11))), (9, 1, (.c (.int .i64 61)))]⟩,
  ⟨some 7, none, .mov (.t 75)⟩])
  (c8_pianolakeep_Code)
def c10_pianolakeep_Code : C :=
 .seq (.seq (.ops [⟨some 52, none, .bin .eql (.t 16) (.c (.int .i64 7))⟩,
  ⟨some 51, none, .mov (.t 52)⟩])
  (.cond (.t 51)
  (.skip)
  (.ops [⟨some 53, none, .bin .eql (.t 16) (.c (.int .i64 8))⟩,
  ⟨some 51, none, .mov (.t 53)⟩])))
  (.cond (.t 51)
  (c5_pianolakeep_Code)
  (.seq (.ops [⟨some 74, none, .bin .eql (.t 16) (.c (.int .i64 9))⟩,
  ⟨some 73, none, .mov (.t 74)⟩])
  (.cond (.t 73)
  (c9_pianolakeep_Code)
  (.skip))))
def c11_pianolakeep_Code : C :=
 .seq (.seq (.ops [⟨some 28, none, .bin .eql (.t 16) (.c (.int .i64 4))⟩,
  ⟨some 27, none, .mov (.t 28)⟩])
  (.cond (.t 27)
  (.skip)
  (.seq (.ops [⟨some 29, none, .bin .eql (.t 16) (.c (.int .i64 5))⟩,
  ⟨some 27, none, .mov (.t 29)⟩])
  (.cond (.t 27)
  (.skip)
  (.ops [⟨some 30, none, .bin .eql (.t 16) (.c (.int .i64 6))⟩,
  ⟨some 27, none, .mov (.t 30)⟩])))))
  (.cond (.t 27)
  (c2_pianolakeep_Code)
  (c10_pianolakeep_Code))
def c12_pianolakeep_Code : C :=
 .seq (.seq (.ops [⟨some 23, none, .bin .eql (.t 16) (.c (.int .i64 2))⟩,
  ⟨some 22, none, .mov (.t 23)⟩])
  (.cond (.t 22)
  (.skip)
  (.ops [⟨some 24, none, .bin .eql (.t 16) (.c (.int .i64 3))⟩,
  ⟨some 22, none, .mov (.t 24)⟩])))
  (.cond (.t 22)
  (.ops [⟨some 25, none, .ldn 7 (.t 1)⟩,
  ⟨some 26, none, .call n_pianolakeep_Any [(.t 25)]⟩,
  ⟨none, none, .stn 6 (.t 4) (.t 26)⟩])
  (c11_pianolakeep_Code))
def c13_pianolakeep_Code : C :=
 .block 0
  (.seq (.seq (.ops [⟨some 18, none, .bin .eql (.t 16) (.c (.int .i64 0))⟩,
  ⟨some 17, none, .mov (.t 18)⟩])
  (.cond (.t 17)
  (.skip)
  (.ops [⟨some 19, none, .bin .eql (.t 16) (.c (.int .i64 1))⟩,
  ⟨some 17, none, .mov (.t 19)⟩])))
  (.cond (.t 17)
  (.seq (.ops [⟨some 20, none, .fa 6 (.t 1)⟩,
  ⟨some 21, none, .ld (.t 20)⟩,
  ⟨some 2, none, .mov (.t 21)⟩])
  (.ret))
  (c12_pianolakeep_Code)))
def c14_pianolakeep_Code : C :=
 .seq (.ops [⟨some 102, none, .ldn 6 (.t 4)⟩,
  ⟨some 103, none, .call n_pianolaref3_Word [(.t 102)]⟩,
  ⟨some 101, none, .mov (.t 103)⟩,
  ⟨some 104, none, .ext (.t 101) 0⟩,
  ⟨some 105, none, .ext (.t 101) 1⟩,
  ⟨some 8, none, .mov (.t 104)⟩,
  ⟨some 9, none, .mov (.t 105)⟩])
  (.seq (.ops [⟨some 106, none, .mov (.t 8)⟩,
  ⟨some 2, none, .mov (.t 106)⟩])
  (.ret))
def c15_pianolakeep_Code : C :=
 .seq (.ops [⟨some 13, none, .ldn 7 (.t 1)⟩,
  ⟨some 14, none, .call n_pianolakeep_Plain [(.t 13)]⟩,
  ⟨some 4, none, .new [(.int .i64 0), (.int .i64 0), (.int .i64 0), (.int .i64 0), (.int .i64 0), (.int .u32 0)]⟩,
  ⟨none, none, .stn 6 (.t 4) (.t 14)⟩])
  (.seq (.seq (.ops [⟨some 15, none, .mov (.t 3)⟩,
  ⟨some 16, none, .bin .rem (.t 15) (.c (.int .i64 16))⟩])
  (c13_pianolakeep_Code))
  (c14_pianolakeep_Code))
def c_pianolakeep_Code : C :=
 .seq (.ops [⟨some 1, none, .box (.t 0)⟩,
  ⟨some 2, none, .mov (.c (.int .u32 0))⟩])
  (.seq (.ops [⟨some 10, none, .fa 0 (.t 1)⟩,
  ⟨some 11, none, .ld (.t 10)⟩,
  ⟨some 12, none, .call n_pianolabook_Within [(.t 11), (.c (.int .i64 0)), (.c (.int .i64 1048576))]⟩,
  ⟨some 3, none, .mov (.t 12)⟩])
  (c15_pianolakeep_Code))
def f_pianolakeep_Code : F := ⟨c_pianolakeep_Code, [.t 2], some []⟩
theorem h_pianolakeep_Code : compF Tryz.prog (compAny Tryz.prog) n_pianolakeep_Code = some (f_pianolakeep_Code.body, f_pianolakeep_Code.res) := by kernel_rfl
def c_ram_Ram_Size : C :=
 .seq (.ops [⟨some 2, none, .mov (.c (.int .u32 0))⟩])
  (.seq (.ops [⟨some 3, none, .mov (.t 0)⟩,
  ⟨some 4, none, .nilc (.t 3)⟩,
  ⟨some 5, none, .fa 0 (.t 4)⟩,
  ⟨some 6, none, .ld (.t 5)⟩,
  ⟨some 7, none, .len 1 (.t 6)⟩,
  ⟨some 8, none, .conv .u32 (.t 7)⟩,
  ⟨some 2, none, .mov (.t 8)⟩])
  (.ret))
def f_ram_Ram_Size : F := ⟨c_ram_Ram_Size, [.t 2], some []⟩
theorem h_ram_Ram_Size : compF Tryz.prog (compAny Tryz.prog) n_ram_Ram_Size = some (f_ram_Ram_Size.body, f_ram_Ram_Size.res) := by kernel_rfl
def c_decode_Of : C :=
 .seq (.ops [⟨some 2, none, .new [(.int .i64 0), (.int .i64 0), (.int .i64 0), (.int .i64 0), (.int .i64 0), (.int .u32 0)]⟩])
  (.seq (.ops [⟨some 3, none, .mov (.t 0)⟩,
  ⟨some 4, none, .call n_decode_kind [(.t 3)]⟩,
  ⟨some 5, none, .mov (.t 0)⟩,
  ⟨some 6, none, .call n_decode_with [(.t 4), (.t 5)]⟩,
  ⟨none, none, .stn 6 (.t 2) (.t 6)⟩])
  (.ret))
def f_decode_Of : F := ⟨c_decode_Of, [.ldn 6 2], some []⟩
theorem h_decode_Of : compF Tryz.prog (compAny Tryz.prog) n_decode_Of = some (f_decode_Of.body, f_decode_Of.res) := by kernel_rfl
def c0_decode_Class : C :=
 .seq (.ops [⟨some 67, none, .mov (.t 3)⟩,
  ⟨some 68, none, .bin .eql (.t 67) (.c (.int .i64 22))⟩,
  ⟨some 69, none, .mov (.t 68)⟩,
  ⟨some 70, some (69, false), .mov (.t 3)⟩,
  ⟨some 71, some (69, false), .bin .eql (.t 70) (.c (.int .i64 24))⟩,
  ⟨some 72, none, .pick (.t 69) (.c (.bool true)) (.t 71)⟩,
  ⟨some 73, none, .mov (.t 72)⟩,
  ⟨some 74, some (73, false), .mov (.t 3)⟩,
  ⟨some 75, some (73, false), .bin .eql (.t 74) (.c (.int .i64 46))⟩,
  ⟨some 76, none, .pick (.t 73) (.c (.bool true)) (.t 75)⟩,
  ⟨some 77, none, .mov (.t 76)⟩,
  ⟨some 78, some (77, false), .mov (.t 3)⟩,
  ⟨some 79, some (77, false), .bin .geq (.t 78) (.c (.int .i64 32))⟩,
  ⟨some 80, some (77, false), .mov (.t 79)⟩,
  ⟨some 81, some (80, true), .mov (.t 3)⟩,
  ⟨some 82, some (80, true), .bin .leq (.t 81) (.c (.int .i64 35))⟩,
  ⟨some 83, some (77, false), .pick (.t 80) (.t 82) (.c (.bool false))⟩,
  ⟨some 84, none, .pick (.t 77) (.c (.bool true)) (.t 83)⟩,
  ⟨some 66, none, .mov (.t 84)⟩])
  (.cond (.t 66)
  (.seq (.ops [⟨some 2, none, .mov (.c (.int .i64 2))⟩])
  (.ret))
  (.skip))
def c1_decode_Class : C :=
 .seq (.ops [⟨some 56, none, .mov (.t 3)⟩,
  ⟨some 57, none, .bin .geq (.t 56) (.c (.int .i64 71))⟩,
  ⟨some 58, none, .mov (.t 57)⟩,
  ⟨some 59, some (58, true), .mov (.t 3)⟩,
  ⟨some 60, some (58, true), .bin .leq (.t 59) (.c (.int .i64 73))⟩,
  ⟨some 61, none, .pick (.t 58) (.t 60) (.c (.bool false))⟩,
  ⟨some 62, none, .mov (.t 61)⟩,
  ⟨some 63, some (62, false), .mov (.t 3)⟩,
  ⟨some 64, some (62, false), .bin .eql (.t 63) (.c (.int .i64 75))⟩,
  ⟨some 65, none, .pick (.t 62) (.c (.bool true)) (.t 64)⟩,
  ⟨some 55, none, .mov (.t 65)⟩])
  (.cond (.t 55)
  (.seq (.ops [⟨some 2, none, .mov (.c (.int .i64 5))⟩])
  (.ret))
  (c0_decode_Class))
def c2_decode_Class : C :=
 .seq (.ops [⟨some 45, none, .mov (.t 3)⟩,
  ⟨some 46, none, .bin .geq (.t 45) (.c (.int .i64 66))⟩,
  ⟨some 47, none, .mov (.t 46)⟩,
  ⟨some 48, some (47, true), .mov (.t 3)⟩,
  ⟨some 49, some (47, true), .bin .leq (.t 48) (.c (.int .i64 70))⟩,
  ⟨some 50, none, .pick (.t 47) (.t 49) (.c (.bool false))⟩,
  ⟨some 51, none, .mov (.t 50)⟩,
  ⟨some 52, some (51, false), .mov (.t 3)⟩,
  ⟨some 53, some (51, false), .bin .eql (.t 52) (.c (.int .i64 74))⟩,
  ⟨some 54, none, .pick (.t 51) (.c (.bool true)) (.t 53)⟩,
  ⟨some 44, none, .mov (.t 54)⟩])
  (.cond (.t 44)
  (.seq (.ops [⟨some 2, none, .mov (.c (.int .i64 4))⟩])
  (.ret))
  (c1_decode_Class))
def c3_decode_Class : C :=
 .seq (.ops [⟨some 30, none, .mov (.t 3)⟩,
  ⟨some 31, none, .bin .eql (.t 30) (.c (.int .i64 7))⟩,
  ⟨some 32, none, .mov (.t 31)⟩,
  ⟨some 33, some (32, false), .mov (.t 3)⟩,
  ⟨some 34, some (32, false), .bin .eql (.t 33) (.c (.int .i64 8))⟩,
  ⟨some 35, none, .pick (.t 32) (.c (.bool true)) (.t 34)⟩,
  ⟨some 36, none, .mov (.t 35)⟩,
  ⟨some 37, some (36, false), .mov (.t 3)⟩,
  ⟨some 38, some (36, false), .bin .geq (.t 37) (.c (.int .i64 36))⟩,
  ⟨some 39, some (36, false), .mov (.t 38)⟩,
  ⟨some 40, some (39, true), .mov (.t 3)⟩,
  ⟨some 41, some (39, true), .bin .leq (.t 40) (.c (.int .i64 45))⟩,
  ⟨some 42, some (36, false), .pick (.t 39) (.t 41) (.c (.bool false))⟩,
  ⟨some 43, none, .pick (.t 36) (.c (.bool true)) (.t 42)⟩,
  ⟨some 29, none, .mov (.t 43)⟩])
  (.cond (.t 29)
  (.seq (.ops [⟨some 2, none, .mov (.c (.int .i64 3))⟩])
  (.ret))
  (c2_decode_Class))
def c4_decode_Class : C :=
 .block 0
  (.seq (.ops [⟨some 7, none, .mov (.t 3)⟩,
  ⟨some 8, none, .bin .leq (.t 7) (.c (.int .i64 0))⟩,
  ⟨some 9, none, .mov (.t 8)⟩,
  ⟨some 10, some (9, false), .mov (.t 3)⟩,
  ⟨some 11, some (9, false), .bin .geq (.t 10) (.c (.int .i64 78))⟩,
  ⟨some 12, none, .pick (.t 9) (.c (.bool true)) (.t 11)⟩,
  ⟨some 13, none, .mov (.t 12)⟩,
  ⟨some 14, some (13, false), .mov (.t 3)⟩,
  ⟨some 15, some (13, false), .bin .eql (.t 14) (.c (.int .i64 11))⟩,
  ⟨some 16, none, .pick (.t 13) (.c (.bool true)) (.t 15)⟩,
  ⟨some 17, none, .mov (.t 16)⟩,
  ⟨some 18, some (17, false), .mov (.t 3)⟩,
  ⟨some 19, some (17, false), .bin .eql (.t 18) (.c (.int .i64 12))⟩,
  ⟨some 20, none, .pick (.t 17) (.c (.bool true)) (.t 19)⟩,
  ⟨some 21, none, .mov (.t 20)⟩,
  ⟨some 22, some (21, false), .mov (.t 3)⟩,
  ⟨some 23, some (21, false), .bin .geq (.t 22) (.c (.int .i64 54))⟩,
  ⟨some 24, some (21, false), .mov (.t 23)⟩,
  ⟨some 25, some (24, true), .mov (.t 3)⟩,
  ⟨some 26, some (24, true), .bin .leq (.t 25) (.c (.int .i64 62))⟩,
  ⟨some 27, some (21, false), .pick (.t 24) (.t 26) (.c (.bool false))⟩,
  ⟨some 28, none, .pick (.t 21) (.c (.bool true)) (.t 27)⟩,
  ⟨some 6, none, .mov (.t 28)⟩])
  (.cond (.t 6)
  (.seq (.ops [⟨some 2, none, .mov (.c (.int .i64 6))⟩])
  (.ret))
  (c3_decode_Class)))
def c_decode_Class : C :=
 .seq (.ops [⟨some 1, none, .box (.t 0)⟩,
  ⟨some 2, none, .mov (.c (.int .i64 0))⟩])
  (.seq (.seq (.ops [⟨some 4, none, .fa 0 (.t 1)⟩,
  ⟨some 5, none, .ld (.t 4)⟩,
  ⟨some 3, none, .mov (.t 5)⟩])
  (c4_decode_Class))
  (.seq (.ops [⟨some 2, none, .mov (.c (.int .i64 1))⟩])
  (.ret)))
def f_decode_Class : F := ⟨c_decode_Class, [.t 2], some []⟩
theorem h_decode_Class : compF Tryz.prog (compAny Tryz.prog) n_decode_Class = some (f_decode_Class.body, f_decode_Class.res) := by kernel_rfl
def c0_block_Block_add : C :=
 .any 1 [.op 1 ⟨some 27, none, .mov (.t 0)⟩,
  .op 2 ⟨some 28, none, .nilc (.t 27)⟩,
  .op 3 ⟨some 29, none, .fa 3 (.t 28)⟩,
  .op 4 ⟨some 30, none, .ld (.t 29)⟩,
  .op 5 ⟨some 31, none, .ldn 6 (.t 5)⟩,
  .op 6 ⟨some 32, none, .call n_lift_Of [(.t 31)]⟩,
  .re 4 ⟨some 30, none, .ld (.t 29)⟩,
  .op 7 ⟨some 33, none, .call n_opt_Opt [(.t 32)]⟩,
  .re 4 ⟨some 30, none, .ld (.t 29)⟩,
  .al 8 0 ⟨some 34, none, .bsl 1 [(.slice none 0 0)] [(0, 1, (.t 33))]⟩,
  .op 9 ⟨some 35, none, .app 1 24 (.t 30) (.t 34)⟩,
  .op 0 ⟨some 26, none, .mov (.t 0)⟩,
  .op 10 ⟨some 36, none, .nilc (.t 26)⟩,
  .op 11 ⟨some 37, none, .fa 3 (.t 36)⟩,
  .op 12 ⟨none, none, .st (.t 37) (.t 35)⟩]
def c1_block_Block_add : C :=
 .seq (.any 2 [.op 2 ⟨some 8, none, .mov (.t 0)⟩,
  .op 3 ⟨some 9, none, .nilc (.t 8)⟩,
  .op 4 ⟨some 10, none, .fa 1 (.t 9)⟩,
  .op 5 ⟨some 11, none, .ld (.t 10)⟩,
  .op 9 ⟨some 15, none, .mov (.t 0)⟩,
  .op 10 ⟨some 16, none, .nilc (.t 15)⟩,
  .op 11 ⟨some 17, none, .fa 2 (.t 16)⟩,
  .op 12 ⟨some 18, none, .ld (.t 17)⟩,
  .op 13 ⟨some 19, none, .ldn 6 (.t 5)⟩,
  .op 6 ⟨some 12, none, .mov (.t 1)⟩,
  .al 7 0 ⟨some 13, none, .bsl 1 [(.int .u32 0)] [(0, 1, (.t 12))]⟩,
  .op 8 ⟨some 14, none, .app 1 4 (.t 11) (.t 13)⟩,
  .re 12 ⟨some 18, none, .ld (.t 17)⟩,
  .re 13 ⟨some 19, none, .ldn 6 (.t 5)⟩,
  .al 14 1 ⟨some 20, none, .bsl 1 [(.int .i64 0), (.int .i64 0), (.int .i64 0), (.int .i64 0), (.int .i64 0), (.int .u32 0)] [(0, 6, (.t 19))]⟩,
  .op 15 ⟨some 21, none, .app 6 48 (.t 18) (.t 20)⟩,
  .op 0 ⟨some 6, none, .mov (.t 0)⟩,
  .op 16 ⟨some 22, none, .nilc (.t 6)⟩,
  .op 17 ⟨some 23, none, .fa 1 (.t 22)⟩,
  .op 18 ⟨none, none, .st (.t 23) (.t 14)⟩,
  .op 1 ⟨some 7, none, .mov (.t 0)⟩,
  .op 19 ⟨some 24, none, .nilc (.t 7)⟩,
  .op 20 ⟨some 25, none, .fa 2 (.t 24)⟩,
  .op 21 ⟨none, none, .st (.t 25) (.t 21)⟩])
  (c0_block_Block_add)
def c_block_Block_add : C :=
 .seq (.ops [⟨some 5, none, .box (.t 2)⟩])
  (c1_block_Block_add)
def f_block_Block_add : F := ⟨c_block_Block_add, [], some []⟩
theorem h_block_Block_add : compF Tryz.prog (compAny Tryz.prog) n_block_Block_add = some (f_block_Block_add.body, f_block_Block_add.res) := by kernel_rfl
def c0_ram_Ram_even : C :=
 .seq (.ops [⟨some 7, none, .mov (.t 2)⟩,
  ⟨some 8, none, .bin .eql (.t 7) (.c (.int .i64 1))⟩,
  ⟨some 9, none, .mov (.t 8)⟩,
  ⟨some 10, some (9, false), .mov (.t 2)⟩,
  ⟨some 11, some (9, false), .bin .eql (.t 10) (.c (.int .i64 2))⟩,
  ⟨some 12, none, .pick (.t 9) (.c (.bool true)) (.t 11)⟩,
  ⟨some 13, none, .mov (.t 12)⟩,
  ⟨some 14, some (13, false), .mov (.t 2)⟩,
  ⟨some 15, some (13, false), .bin .eql (.t 14) (.c (.int .i64 4))⟩,
  ⟨some 16, none, .pick (.t 13) (.c (.bool true)) (.t 15)⟩,
  ⟨some 17, none, .mov (.t 16)⟩,
  ⟨some 18, some (17, true), .mov (.t 1)⟩,
  ⟨some 19, some (17, true), .mov (.t 2)⟩,
  ⟨some 20, some (17, true), .conv .u32 (.t 19)⟩,
  ⟨some 21, some (17, true), .bin .rem (.t 18) (.t 20)⟩,
  ⟨some 22, some (17, true), .bin .eql (.t 21) (.c (.int .u32 0))⟩,
  ⟨some 23, none, .pick (.t 17) (.t 22) (.c (.bool false))⟩,
  ⟨some 24, none, .mov (.t 23)⟩,
  ⟨some 25, some (24, true), .mov (.t 0)⟩,
  ⟨some 26, some (24, true), .mov (.t 1)⟩,
  ⟨some 27, some (24, true), .mov (.t 2)⟩,
  ⟨some 28, some (24, true), .call n_ram_Ram_there [(.t 25), (.t 26), (.t 27)]⟩,
  ⟨some 29, none, .pick (.t 24) (.t 28) (.c (.bool false))⟩,
  ⟨some 6, none, .mov (.t 29)⟩])
  (.ret)
def c_ram_Ram_even : C :=
 .seq (.ops [⟨some 6, none, .mov (.c (.bool false))⟩])
  (c0_ram_Ram_even)
def f_ram_Ram_even : F := ⟨c_ram_Ram_even, [.t 6], some []⟩
theorem h_ram_Ram_even : compF Tryz.prog (compAny Tryz.prog) n_ram_Ram_even = some (f_ram_Ram_even.body, f_ram_Ram_even.res) := by kernel_rfl
def c0_ram_Ram_touch : C :=
 .seq (.block 1
  (.any 0 [.op 0 ⟨some 22, none, .mov (.t 0)⟩,
  .op 1 ⟨some 23, none, .nilc (.t 22)⟩,
  .op 2 ⟨some 24, none, .fa 2 (.t 23)⟩,
  .op 3 ⟨some 25, none, .ld (.t 24)⟩,
  .op 5 ⟨some 27, none, .mov (.t 0)⟩,
  .op 6 ⟨some 28, none, .nilc (.t 27)⟩,
  .op 7 ⟨some 29, none, .fa 2 (.t 28)⟩,
  .op 8 ⟨some 30, none, .ld (.t 29)⟩,
  .op 9 ⟨some 31, none, .mov (.t 6)⟩,
  .op 10 ⟨some 32, none, .ia 1 (.t 30) (.t 31)⟩,
  .op 11 ⟨some 33, none, .ld (.t 32)⟩,
  .op 12 ⟨some 34, none, .mov (.t 33)⟩,
  .op 13 ⟨some 35, some (34, false), .mov (.t 0)⟩,
  .op 14 ⟨some 36, some (34, false), .nilc (.t 35)⟩,
  .op 15 ⟨some 37, some (34, false), .fa 1 (.t 36)⟩,
  .op 16 ⟨some 38, some (34, false), .ld (.t 37)⟩,
  .op 17 ⟨some 39, some (34, false), .mov (.t 6)⟩,
  .op 18 ⟨some 40, some (34, false), .ia 1 (.t 38) (.t 39)⟩,
  .op 19 ⟨some 41, some (34, false), .ld (.t 40)⟩,
  .op 4 ⟨some 26, none, .mov (.t 6)⟩,
  .op 20 ⟨some 42, none, .pick (.t 34) (.c (.bool true)) (.t 41)⟩,
  .op 21 ⟨some 43, none, .ia 1 (.t 25) (.t 26)⟩,
  .op 22 ⟨none, none, .st (.t 43) (.t 42)⟩]))
  (.ops [⟨some 20, none, .mov (.t 6)⟩,
  ⟨some 21, none, .bin .add (.t 20) (.c (.int .i64 1))⟩,
  ⟨some 6, none, .mov (.t 21)⟩])
def c1_ram_Ram_touch : C :=
 .seq (.seq (.ops [⟨some 12, none, .mov (.t 6)⟩,
  ⟨some 13, none, .mov (.t 1)⟩,
  ⟨some 14, none, .conv .i64 (.t 13)⟩,
  ⟨some 15, none, .mov (.t 2)⟩,
  ⟨some 16, none, .bin .add (.t 14) (.t 15)⟩,
  ⟨some 17, none, .bin .sub (.t 16) (.c (.int .i64 1))⟩,
  ⟨some 18, none, .bin .quo (.t 17) (.c (.int .i64 1024))⟩,
  ⟨some 19, none, .bin .leq (.t 12) (.t 18)⟩])
  (.cond (.t 19)
  (.skip)
  (.exit 0)))
  (c0_ram_Ram_touch)
def c_ram_Ram_touch : C :=
 .seq (.seq (.ops [⟨some 7, none, .mov (.t 2)⟩,
  ⟨some 8, none, .bin .lss (.t 7) (.c (.int .i64 1))⟩])
  (.cond (.t 8)
  (.ret)
  (.skip)))
  (.seq (.ops [⟨some 9, none, .mov (.t 1)⟩,
  ⟨some 10, none, .conv .i64 (.t 9)⟩,
  ⟨some 11, none, .bin .quo (.t 10) (.c (.int .i64 1024))⟩,
  ⟨some 6, none, .mov (.t 11)⟩])
  (.block 0
  (.loop c1_ram_Ram_touch)))
def f_ram_Ram_touch : F := ⟨c_ram_Ram_touch, [], some []⟩
theorem h_ram_Ram_touch : compF Tryz.prog (compAny Tryz.prog) n_ram_Ram_touch = some (f_ram_Ram_touch.body, f_ram_Ram_touch.res) := by kernel_rfl
def c0_ram_Ram_there : C :=
 .seq (.ops [⟨some 7, none, .mov (.t 2)⟩,
  ⟨some 8, none, .bin .geq (.t 7) (.c (.int .i64 0))⟩,
  ⟨some 9, none, .mov (.t 8)⟩,
  ⟨some 10, some (9, true), .mov (.t 1)⟩,
  ⟨some 11, some (9, true), .conv .i64 (.t 10)⟩,
  ⟨some 12, some (9, true), .mov (.t 0)⟩,
  ⟨some 13, some (9, true), .nilc (.t 12)⟩,
  ⟨some 14, some (9, true), .fa 0 (.t 13)⟩,
  ⟨some 15, some (9, true), .ld (.t 14)⟩,
  ⟨some 16, some (9, true), .len 1 (.t 15)⟩,
  ⟨some 17, some (9, true), .bin .leq (.t 11) (.t 16)⟩,
  ⟨some 18, none, .pick (.t 9) (.t 17) (.c (.bool false))⟩,
  ⟨some 19, none, .mov (.t 18)⟩,
  ⟨some 20, some (19, true), .mov (.t 2)⟩,
  ⟨some 21, some (19, true), .mov (.t 0)⟩,
  ⟨some 22, some (19, true), .nilc (.t 21)⟩,
  ⟨some 23, some (19, true), .fa 0 (.t 22)⟩,
  ⟨some 24, some (19, true), .ld (.t 23)⟩,
  ⟨some 25, some (19, true), .len 1 (.t 24)⟩,
  ⟨some 26, some (19, true), .mov (.t 1)⟩,
  ⟨some 27, some (19, true), .conv .i64 (.t 26)⟩,
  ⟨some 28, some (19, true), .bin .sub (.t 25) (.t 27)⟩,
  ⟨some 29, some (19, true), .bin .leq (.t 20) (.t 28)⟩,
  ⟨some 30, none, .pick (.t 19) (.t 29) (.c (.bool false))⟩,
  ⟨some 6, none, .mov (.t 30)⟩])
  (.ret)
def c_ram_Ram_there : C :=
 .seq (.ops [⟨some 6, none, .mov (.c (.bool false))⟩])
  (c0_ram_Ram_there)
def f_ram_Ram_there : F := ⟨c_ram_Ram_there, [.t 6], some []⟩
theorem h_ram_Ram_there : compF Tryz.prog (compAny Tryz.prog) n_ram_Ram_there = some (f_ram_Ram_there.body, f_ram_Ram_there.res) := by kernel_rfl
def c0_pianolaref2_Ram_In : C :=
 .seq (.ops [⟨some 7, none, .mov (.t 2)⟩,
  ⟨some 8, none, .bin .geq (.t 7) (.c (.int .i64 0))⟩,
  ⟨some 9, none, .mov (.t 8)⟩,
  ⟨some 10, some (9, true), .mov (.t 1)⟩,
  ⟨some 11, some (9, true), .conv .u64 (.t 10)⟩,
  ⟨some 12, some (9, true), .mov (.t 2)⟩,
  ⟨some 13, some (9, true), .conv .u64 (.t 12)⟩,
  ⟨some 14, some (9, true), .bin .add (.t 11) (.t 13)⟩,
  ⟨some 15, some (9, true), .mov (.t 0)⟩,
  ⟨some 16, some (9, true), .nilc (.t 15)⟩,
  ⟨some 17, some (9, true), .fa 0 (.t 16)⟩,
  ⟨some 18, some (9, true), .ld (.t 17)⟩,
  ⟨some 19, some (9, true), .len 1 (.t 18)⟩,
  ⟨some 20, some (9, true), .conv .u64 (.t 19)⟩,
  ⟨some 21, some (9, true), .bin .leq (.t 14) (.t 20)⟩,
  ⟨some 22, none, .pick (.t 9) (.t 21) (.c (.bool false))⟩,
  ⟨some 6, none, .mov (.t 22)⟩])
  (.ret)
def c_pianolaref2_Ram_In : C :=
 .seq (.ops [⟨some 6, none, .mov (.c (.bool false))⟩])
  (c0_pianolaref2_Ram_In)
def f_pianolaref2_Ram_In : F := ⟨c_pianolaref2_Ram_In, [.t 6], some []⟩
theorem h_pianolaref2_Ram_In : compF Tryz.prog (compAny Tryz.prog) n_pianolaref2_Ram_In = some (f_pianolaref2_Ram_In.body, f_pianolaref2_Ram_In.res) := by kernel_rfl
def c0_pianolaref2_Ram_touch : C :=
 .seq (.ops [⟨some 18, none, .mov (.t 0)⟩,
  ⟨some 19, none, .nilc (.t 18)⟩,
  ⟨some 20, none, .fa 1 (.t 19)⟩,
  ⟨some 21, none, .ld (.t 20)⟩,
  ⟨some 22, none, .mov (.t 7)⟩,
  ⟨some 23, none, .ia 1 (.t 21) (.t 22)⟩,
  ⟨some 24, none, .ld (.t 23)⟩])
  (.cond (.t 24)
  (.ops [⟨some 25, none, .mov (.t 0)⟩,
  ⟨some 26, none, .nilc (.t 25)⟩,
  ⟨some 27, none, .fa 2 (.t 26)⟩,
  ⟨some 28, none, .ld (.t 27)⟩,
  ⟨some 29, none, .mov (.t 7)⟩,
  ⟨some 30, none, .ia 1 (.t 28) (.t 29)⟩,
  ⟨none, none, .st (.t 30) (.c (.bool true))⟩])
  (.skip))
def c1_pianolaref2_Ram_touch : C :=
 .seq (.block 1
  (.seq (.ops [⟨some 13, none, .mov (.t 1)⟩,
  ⟨some 14, none, .conv .i64 (.t 13)⟩,
  ⟨some 15, none, .mov (.t 6)⟩,
  ⟨some 16, none, .bin .add (.t 14) (.t 15)⟩,
  ⟨some 17, none, .bin .quo (.t 16) (.c (.int .i64 1024))⟩,
  ⟨some 7, none, .mov (.t 17)⟩])
  (c0_pianolaref2_Ram_touch)))
  (.ops [⟨some 11, none, .mov (.t 6)⟩,
  ⟨some 12, none, .bin .add (.t 11) (.c (.int .i64 1))⟩,
  ⟨some 6, none, .mov (.t 12)⟩])
def c2_pianolaref2_Ram_touch : C :=
 .seq (.seq (.ops [⟨some 8, none, .mov (.t 6)⟩,
  ⟨some 9, none, .mov (.t 2)⟩,
  ⟨some 10, none, .bin .lss (.t 8) (.t 9)⟩])
  (.cond (.t 10)
  (.skip)
  (.exit 0)))
  (c1_pianolaref2_Ram_touch)
def c_pianolaref2_Ram_touch : C :=
 .seq (.ops [⟨some 6, none, .mov (.c (.int .i64 0))⟩])
  (.block 0
  (.loop c2_pianolaref2_Ram_touch))
def f_pianolaref2_Ram_touch : F := ⟨c_pianolaref2_Ram_touch, [], some []⟩
theorem h_pianolaref2_Ram_touch : compF Tryz.prog (compAny Tryz.prog) n_pianolaref2_Ram_touch = some (f_pianolaref2_Ram_touch.body, f_pianolaref2_Ram_touch.res) := by kernel_rfl
end Go.Proofs.YtmgoleiafiffoaaGreat.Cd

set_option maxRecDepth 100000
set_option linter.defProp false
namespace Go.Proofs.YtmgoleiafiffoaaGreat.Cd
open Go Go.Dx
def c0_pianolaref3_Word : C :=
 .ops [⟨some 76, none, .mov (.t 6)⟩,
  ⟨some 77, none, .bin .or (.t 76) (.c (.int .u32 33554432))⟩,
  ⟨some 78, none, .fa 1 (.t 4)⟩,
  ⟨some 79, none, .ld (.t 78)⟩,
  ⟨some 80, none, .bin .sub (.t 79) (.c (.int .i64 64))⟩,
  ⟨some 81, none, .conv .u32 (.t 80)⟩,
  ⟨some 82, none, .bin .or (.t 77) (.t 81)⟩,
  ⟨some 6, none, .mov (.t 82)⟩]
def c1_pianolaref3_Word : C :=
 .seq (.ops [⟨some 84, none, .fa 0 (.t 4)⟩,
  ⟨some 85, none, .ld (.t 84)⟩,
  ⟨some 86, none, .bin .eql (.t 85) (.c (.int .i64 16))⟩,
  ⟨some 83, none, .mov (.t 86)⟩])
  (.cond (.t 83)
  (.ops [⟨some 87, none, .mov (.t 6)⟩,
  ⟨some 88, none, .fa 1 (.t 4)⟩,
  ⟨some 89, none, .ld (.t 88)⟩,
  ⟨some 90, none, .conv .u32 (.t 89)⟩,
  ⟨some 91, none, .bin .shl (.t 90) (.c (.int .u64 21))⟩,
  ⟨some 92, none, .bin .or (.t 87) (.t 91)⟩,
  ⟨some 6, none, .mov (.t 92)⟩])
  (.skip))
def c2_pianolaref3_Word : C :=
 .seq (.ops [⟨some 68, none, .fa 0 (.t 4)⟩,
  ⟨some 69, none, .ld (.t 68)⟩,
  ⟨some 70, none, .bin .eql (.t 69) (.c (.int .i64 16))⟩,
  ⟨some 71, none, .mov (.t 70)⟩,
  ⟨some 72, some (71, true), .fa 1 (.t 4)⟩,
  ⟨some 73, some (71, true), .ld (.t 72)⟩,
  ⟨some 74, some (71, true), .bin .geq (.t 73) (.c (.int .i64 64))⟩,
  ⟨some 75, none, .pick (.t 71) (.t 74) (.c (.bool false))⟩,
  ⟨some 67, none, .mov (.t 75)⟩])
  (.cond (.t 67)
  (c0_pianolaref3_Word)
  (c1_pianolaref3_Word))
def c3_pianolaref3_Word : C :=
 .seq (.ops [⟨some 58, none, .fa 0 (.t 4)⟩,
  ⟨some 59, none, .ld (.t 58)⟩,
  ⟨some 60, none, .bin .eql (.t 59) (.c (.int .i64 1))⟩,
  ⟨some 57, none, .mov (.t 60)⟩])
  (.cond (.t 57)
  (.ops [⟨some 61, none, .mov (.t 6)⟩,
  ⟨some 62, none, .fa 1 (.t 4)⟩,
  ⟨some 63, none, .ld (.t 62)⟩,
  ⟨some 64, none, .conv .u32 (.t 63)⟩,
  ⟨some 65, none, .bin .shl (.t 64) (.c (.int .u64 16))⟩,
  ⟨some 66, none, .bin .or (.t 61) (.t 65)⟩,
  ⟨some 6, none, .mov (.t 66)⟩])
  (c2_pianolaref3_Word))
def c4_pianolaref3_Word : C :=
 .seq (.block 0
  (.seq (.ops [⟨some 44, none, .fa 0 (.t 4)⟩,
  ⟨some 45, none, .ld (.t 44)⟩,
  ⟨some 46, none, .bin .eql (.t 45) (.c (.int .i64 0))⟩,
  ⟨some 47, none, .mov (.t 46)⟩,
  ⟨some 48, some (47, false), .fa 0 (.t 4)⟩,
  ⟨some 49, some (47, false), .ld (.t 48)⟩,
  ⟨some 50, some (47, false), .bin .eql (.t 49) (.c (.int .i64 28))⟩,
  ⟨some 51, none, .pick (.t 47) (.c (.bool true)) (.t 50)⟩,
  ⟨some 43, none, .mov (.t 51)⟩])
  (.cond (.t 43)
  (.ops [⟨some 52, none, .mov (.t 6)⟩,
  ⟨some 53, none, .fa 1 (.t 4)⟩,
  ⟨some 54, none, .ld (.t 53)⟩,
  ⟨some 55, none, .conv .u32 (.t 54)⟩,
  ⟨some 56, none, .bin .or (.t 52) (.t 55)⟩,
  ⟨some 6, none, .mov (.t 56)⟩])
  (c3_pianolaref3_Word))))
  (.seq (.ops [⟨some 93, none, .mov (.t 6)⟩,
  ⟨some 2, none, .mov (.t 93)⟩,
  ⟨some 3, none, .mov (.c (.bool true))⟩])
  (.ret))
def c5_pianolaref3_Word : C :=
 .seq (.ops [⟨some 16, none, .fa 0 (.t 4)⟩,
  ⟨some 17, none, .ld (.t 16)⟩,
  ⟨some 18, none, .conv .u32 (.t 17)⟩,
  ⟨some 19, none, .bin .shl (.t 18) (.c (.int .u64 26))⟩,
  ⟨some 20, none, .fa 1 (.t 1)⟩,
  ⟨some 21, none, .ld (.t 20)⟩,
  ⟨some 22, none, .conv .u32 (.t 21)⟩,
  ⟨some 23, none, .bin .shl (.t 22) (.c (.int .u64 21))⟩,
  ⟨some 24, none, .bin .or (.t 19) (.t 23)⟩,
  ⟨some 25, none, .fa 2 (.t 1)⟩,
  ⟨some 26, none, .ld (.t 25)⟩,
  ⟨some 27, none, .conv .u32 (.t 26)⟩,
  ⟨some 28, none, .bin .shl (.t 27) (.c (.int .u64 16))⟩,
  ⟨some 29, none, .bin .or (.t 24) (.t 28)⟩,
  ⟨some 30, none, .fa 3 (.t 1)⟩,
  ⟨some 31, none, .ld (.t 30)⟩,
  ⟨some 32, none, .conv .u32 (.t 31)⟩,
  ⟨some 33, none, .bin .shl (.t 32) (.c (.int .u64 11))⟩,
  ⟨some 34, none, .bin .or (.t 29) (.t 33)⟩,
  ⟨some 35, none, .fa 4 (.t 1)⟩,
  ⟨some 36, none, .ld (.t 35)⟩,
  ⟨some 37, none, .conv .u32 (.t 36)⟩,
  ⟨some 38, none, .bin .shl (.t 37) (.c (.int .u64 6))⟩,
  ⟨some 39, none, .bin .or (.t 34) (.t 38)⟩,
  ⟨some 40, none, .fa 5 (.t 1)⟩,
  ⟨some 41, none, .ld (.t 40)⟩,
  ⟨some 42, none, .bin .or (.t 39) (.t 41)⟩,
  ⟨some 6, none, .mov (.t 42)⟩])
  (c4_pianolaref3_Word)
def c6_pianolaref3_Word : C :=
 .seq (.ops [⟨some 11, none, .fa 0 (.t 1)⟩,
  ⟨some 12, none, .ld (.t 11)⟩,
  ⟨some 13, none, .call n_pianolaref3_find [(.t 12)]⟩,
  ⟨some 10, none, .mov (.t 13)⟩,
  ⟨some 14, none, .ext (.t 10) 0⟩,
  ⟨some 15, none, .ext (.t 10) 1⟩,
  ⟨some 4, none, .new [(.int .i64 0), (.int .i64 0), (.int .i64 0), (.string .empty)]⟩,
  ⟨none, none, .stn 4 (.t 4) (.t 14)⟩,
  ⟨some 5, none, .mov (.t 15)⟩])
  (c5_pianolaref3_Word)
def c_pianolaref3_Word : C :=
 .seq (.ops [⟨some 1, none, .box (.t 0)⟩,
  ⟨some 2, none, .mov (.c (.int .u32 0))⟩,
  ⟨some 3, none, .mov (.c (.bool false))⟩])
  (.seq (.seq (.ops [⟨some 7, none, .ldn 6 (.t 1)⟩,
  ⟨some 8, none, .call n_pianolaref3_Right [(.t 7)]⟩,
  ⟨some 9, none, .un .not (.t 8)⟩])
  (.cond (.t 9)
  (.seq (.ops [⟨some 2, none, .mov (.c (.int .u32 0))⟩,
  ⟨some 3, none, .mov (.c (.bool false))⟩])
  (.ret))
  (.skip)))
  (c6_pianolaref3_Word))
def f_pianolaref3_Word : F := ⟨c_pianolaref3_Word, [.t 2, .t 3], some []⟩
theorem h_pianolaref3_Word : compF Tryz.prog (compAny Tryz.prog) n_pianolaref3_Word = some (f_pianolaref3_Word.body, f_pianolaref3_Word.res) := by kernel_rfl
def c0_pianolakeep_Plain : C :=
 .seq (.any 0 [.op 0 ⟨some 5, none, .ldn 7 (.t 1)⟩,
  .op 2 ⟨some 7, none, .fa 0 (.t 1)⟩,
  .op 3 ⟨some 8, none, .ld (.t 7)⟩,
  .op 5 ⟨some 10, none, .mov (.t 3)⟩,
  .op 6 ⟨some 11, none, .len 1 (.t 10)⟩,
  .op 4 ⟨some 9, none, .call n_pianolabook_Within [(.t 8), (.c (.int .i64 0)), (.c (.int .i64 1048576))]⟩,
  .re 0 ⟨some 5, none, .ldn 7 (.t 1)⟩,
  .re 6 ⟨some 11, none, .len 1 (.t 10)⟩,
  .op 1 ⟨some 6, none, .mov (.t 3)⟩,
  .op 7 ⟨some 12, none, .bin .rem (.t 9) (.t 11)⟩,
  .op 8 ⟨some 13, none, .ia 1 (.t 6) (.t 12)⟩,
  .op 9 ⟨some 14, none, .ld (.t 13)⟩,
  .op 10 ⟨some 15, none, .call n_pianolakeep_Inst [(.t 5), (.t 14)]⟩,
  .op 11 ⟨none, none, .stn 6 (.t 2) (.t 15)⟩])
  (.ret)
def c1_pianolakeep_Plain : C :=
 .seq (.ops [⟨some 4, none, .bsl 37 (List.replicate 37 (.int .i64 0)) [(0, 1, (.c (.int .i64 1))), (1, 1, (.c (.int .i64 2))), (2, 1, (.c (.int .i64 3))), (3, 1, (.c (.int .i64 4))), (4, 1, (.c (.int .i64 5))), (5, 1, (.c (.int .i64 6))), (6, 1, (.c (.int .i64 9))), (7, 1, (.c (.int .i64 10))), (8, 1, (.c (.int .i64 13))), (9, 1, (.c (.int .i64 14))), (10, 1, (.c (.int .i64 15))), (11, 1, (.c (.int .i64 16))), (12, 1, (.c (.int .i64 17))), (13, 1, (.c (.int .i64 18))), (14, 1, (.c (.int .i64 19))), (15, 1, (.c (.int .i64 20))), (16, 1, (.c (.int .i64 21))), (17, 1, (.c (.int .i64 23))), (18, 1, (.c (.int .i64 25))), (19, 1, (.c (.int .i64 26))), (20, 1, (.c (.int .i64 27))), (21, 1, (.c (.int .i64 28))), (22, 1, (.c (.int .i64 29))), (23, 1, (.c (.int .i64 30))), (24, 1, (.c (.int .i64 31))), (25, 1, (.c (.int .i64 47))), (26, 1, (.c (.int .i64 48))), (27, 1, (.c (.int .i64 49))), (28, 1, (.c (.int .i64 50))), (29, 1, (.c (.int .i64 51))), (30, 1, (.c (.int .i64 52))), (31, 1, (.c (.int .i64 53))), (32, 1, (.c (.int .i64 63))), (33, 1, (.c (.int .i64 64))), (34, 1, (.c (.int .i64 65))), (35, 1, (.c (.int .i64 76))), (36, 1, (.c (.int .i64 77)))]⟩,
  ⟨some 3, none, .mov (.t 4)⟩])
  (c0_pianolakeep_Plain)
def c_pianolakeep_Plain : C :=
 .seq (.ops [⟨some 1, none, .box (.t 0)⟩,
  ⟨some 2, none, .new [(.int .i64 0), (.int .i64 0), (.int .i64 0), (.int .i64 0), (.int .i64 0), (.int .u32 0)]⟩])
  (c1_pianolakeep_Plain)
def f_pianolakeep_Plain : F := ⟨c_pianolakeep_Plain, [.ldn 6 2], some []⟩
theorem h_pianolakeep_Plain : compF Tryz.prog (compAny Tryz.prog) n_pianolakeep_Plain = some (f_pianolakeep_Plain.body, f_pianolakeep_Plain.res) := by kernel_rfl
def c0_pianolakeep_Any : C :=
 .seq (.any 0 [.op 0 ⟨some 3, none, .ldn 7 (.t 1)⟩,
  .op 1 ⟨some 4, none, .fa 0 (.t 1)⟩,
  .op 2 ⟨some 5, none, .ld (.t 4)⟩,
  .op 3 ⟨some 6, none, .call n_pianolabook_Within [(.t 5), (.c (.int .i64 0)), (.c (.int .i64 1048576))]⟩,
  .re 0 ⟨some 3, none, .ldn 7 (.t 1)⟩,
  .op 4 ⟨some 7, none, .bin .rem (.t 6) (.c (.int .i64 77))⟩,
  .op 5 ⟨some 8, none, .bin .add (.c (.int .i64 1)) (.t 7)⟩,
  .op 6 ⟨some 9, none, .call n_pianolakeep_Inst [(.t 3), (.t 8)]⟩,
  .op 7 ⟨none, none, .stn 6 (.t 2) (.t 9)⟩])
  (.ret)
def c_pianolakeep_Any : C :=
 .seq (.ops [⟨some 1, none, .box (.t 0)⟩,
  ⟨some 2, none, .new [(.int .i64 0), (.int .i64 0), (.int .i64 0), (.int .i64 0), (.int .i64 0), (.int .u32 0)]⟩])
  (c0_pianolakeep_Any)
def f_pianolakeep_Any : F := ⟨c_pianolakeep_Any, [.ldn 6 2], some []⟩
theorem h_pianolakeep_Any : compF Tryz.prog (compAny Tryz.prog) n_pianolakeep_Any = some (f_pianolakeep_Any.body, f_pianolakeep_Any.res) := by kernel_rfl
def c0_pianolakeep_Inst : C :=
 .seq (.ops [⟨some 45, none, .bin .eql (.t 30) (.c (.int .i64 4))⟩,
  ⟨some 44, none, .mov (.t 45)⟩])
  (.cond (.t 44)
  (.ops [⟨some 46, none, .fa 5 (.t 7)⟩,
  ⟨some 47, none, .ld (.t 46)⟩,
  ⟨some 48, none, .bin .and (.t 47) (.c (.int .u32 65535))⟩,
  ⟨some 49, none, .fa 5 (.t 7)⟩,
  ⟨none, none, .st (.t 49) (.t 48)⟩])
  (.ops [⟨some 31, none, .fa 5 (.t 7)⟩,
  ⟨none, none, .st (.t 31) (.c (.int .u32 0))⟩]))
def c1_pianolakeep_Inst : C :=
 .cond (.t 38)
  (.ops [⟨some 40, none, .fa 3 (.t 7)⟩,
  ⟨none, none, .st (.t 40) (.c (.int .i64 0))⟩])
  (.seq (.ops [⟨some 42, none, .bin .eql (.t 30) (.c (.int .i64 3))⟩,
  ⟨some 41, none, .mov (.t 42)⟩])
  (.cond (.t 41)
  (.ops [⟨some 43, none, .fa 4 (.t 7)⟩,
  ⟨none, none, .st (.t 43) (.c (.int .i64 0))⟩])
  (c0_pianolakeep_Inst)))
def c2_pianolakeep_Inst : C :=
 .seq (.ops [⟨some 36, none, .bin .eql (.t 30) (.c (.int .i64 1))⟩,
  ⟨some 35, none, .mov (.t 36)⟩])
  (.cond (.t 35)
  (.ops [⟨some 37, none, .fa 2 (.t 7)⟩,
  ⟨none, none, .st (.t 37) (.c (.int .i64 0))⟩])
  (.seq (.ops [⟨some 39, none, .bin .eql (.t 30) (.c (.int .i64 2))⟩,
  ⟨some 38, none, .mov (.t 39)⟩])
  (c1_pianolakeep_Inst)))
def c3_pianolakeep_Inst : C :=
 .seq (.ops [⟨some 50, none, .ldn 6 (.t 5)⟩,
  ⟨some 51, none, .mov (.t 6)⟩,
  ⟨some 52, none, .call n_pianolakeep_only [(.t 50), (.t 51)]⟩,
  ⟨some 53, none, .call n_pianolaref3_Right [(.t 52)]⟩,
  ⟨some 54, none, .un .not (.t 53)⟩])
  (.cond (.t 54)
  (.ops [⟨some 55, none, .ldn 6 (.t 7)⟩,
  ⟨none, none, .stn 6 (.t 5) (.t 55)⟩])
  (.skip))
def c4_pianolakeep_Inst : C :=
 .seq (.block 1
  (.seq (.ops [⟨some 29, none, .ldn 6 (.t 5)⟩,
  ⟨some 7, none, .new [(.int .i64 0), (.int .i64 0), (.int .i64 0), (.int .i64 0), (.int .i64 0), (.int .u32 0)]⟩,
  ⟨none, none, .stn 6 (.t 7) (.t 29)⟩])
  (.seq (.seq (.ops [⟨some 30, none, .mov (.t 6)⟩])
  (.block 2
  (.seq (.ops [⟨some 33, none, .bin .eql (.t 30) (.c (.int .i64 0))⟩,
  ⟨some 32, none, .mov (.t 33)⟩])
  (.cond (.t 32)
  (.ops [⟨some 34, none, .fa 1 (.t 7)⟩,
  ⟨none, none, .st (.t 34) (.c (.int .i64 0))⟩])
  (c2_pianolakeep_Inst)))))
  (c3_pianolakeep_Inst))))
  (.ops [⟨some 27, none, .mov (.t 6)⟩,
  ⟨some 28, none, .bin .add (.t 27) (.c (.int .i64 1))⟩,
  ⟨some 6, none, .mov (.t 28)⟩])
def c5_pianolakeep_Inst : C :=
 .seq (.seq (.ops [⟨some 25, none, .mov (.t 6)⟩,
  ⟨some 26, none, .bin .lss (.t 25) (.c (.int .i64 6))⟩])
  (.cond (.t 26)
  (.skip)
  (.exit 0)))
  (c4_pianolakeep_Inst)
def c6_pianolakeep_Inst : C :=
 .seq (.any 1 [.op 1 ⟨some 9, none, .fa 1 (.t 2)⟩,
  .op 2 ⟨some 10, none, .ld (.t 9)⟩,
  .op 4 ⟨some 12, none, .fa 2 (.t 2)⟩,
  .op 5 ⟨some 13, none, .ld (.t 12)⟩,
  .op 7 ⟨some 15, none, .fa 3 (.t 2)⟩,
  .op 8 ⟨some 16, none, .ld (.t 15)⟩,
  .op 10 ⟨some 18, none, .fa 4 (.t 2)⟩,
  .op 11 ⟨some 19, none, .ld (.t 18)⟩,
  .op 13 ⟨some 21, none, .fa 5 (.t 2)⟩,
  .op 14 ⟨some 22, none, .ld (.t 21)⟩,
  .op 3 ⟨some 11, none, .call n_pianolakeep_near [(.t 10)]⟩,
  .re 5 ⟨some 13, none, .ld (.t 12)⟩,
  .re 8 ⟨some 16, none, .ld (.t 15)⟩,
  .re 11 ⟨some 19, none, .ld (.t 18)⟩,
  .re 14 ⟨some 22, none, .ld (.t 21)⟩,
  .op 6 ⟨some 14, none, .call n_pianolakeep_near [(.t 13)]⟩,
  .re 8 ⟨some 16, none, .ld (.t 15)⟩,
  .re 11 ⟨some 19, none, .ld (.t 18)⟩,
  .re 14 ⟨some 22, none, .ld (.t 21)⟩,
  .op 9 ⟨some 17, none, .call n_pianolakeep_near [(.t 16)]⟩,
  .re 11 ⟨some 19, none, .ld (.t 18)⟩,
  .re 14 ⟨some 22, none, .ld (.t 21)⟩,
  .op 12 ⟨some 20, none, .call n_pianolabook_Within [(.t 19), (.c (.int .i64 0)), (.c (.int .i64 31))]⟩,
  .re 14 ⟨some 22, none, .ld (.t 21)⟩,
  .op 0 ⟨some 8, none, .mov (.t 1)⟩,
  .op 15 ⟨some 23, none, .bin .and (.t 22) (.c (.int .u32 67108863))⟩,
  .op 16 ⟨some 24, none, .build [(.int .i64 0), (.int .i64 0), (.int .i64 0), (.int .i64 0), (.int .i64 0), (.int .u32 0)] [(0, 1, (.t 8)), (1, 1, (.t 11)), (2, 1, (.t 14)), (3, 1, (.t 17)), (4, 1, (.t 20)), (5, 1, (.t 23))]⟩,
  .al 17 0 ⟨some 5, none, .new [(.int .i64 0), (.int .i64 0), (.int .i64 0), (.int .i64 0), (.int .i64 0), (.int .u32 0)]⟩,
  .op 18 ⟨none, none, .stn 6 (.t 5) (.t 24)⟩])
  (.seq (.seq (.ops [⟨some 6, none, .mov (.c (.int .i64 0))⟩])
  (.block 0
  (.loop c5_pianolakeep_Inst)))
  (.seq (.ops [⟨some 56, none, .ldn 6 (.t 5)⟩,
  ⟨none, none, .stn 6 (.t 4) (.t 56)⟩])
  (.ret)))
def c_pianolakeep_Inst : C :=
 .seq (.ops [⟨some 2, none, .box (.t 0)⟩,
  ⟨some 4, none, .new [(.int .i64 0), (.int .i64 0), (.int .i64 0), (.int .i64 0), (.int .i64 0), (.int .u32 0)]⟩])
  (c6_pianolakeep_Inst)
def f_pianolakeep_Inst : F := ⟨c_pianolakeep_Inst, [.ldn 6 4], some []⟩
theorem h_pianolakeep_Inst : compF Tryz.prog (compAny Tryz.prog) n_pianolakeep_Inst = some (f_pianolakeep_Inst.body, f_pianolakeep_Inst.res) := by kernel_rfl
def c0_decode_with : C :=
 .seq (.ops [⟨some 51, none, .mov (.t 6)⟩,
  ⟨some 52, none, .bin .and (.t 51) (.c (.int .i64 32))⟩,
  ⟨some 53, none, .bin .neq (.t 52) (.c (.int .i64 0))⟩,
  ⟨some 50, none, .mov (.t 53)⟩])
  (.cond (.t 50)
  (.ops [⟨some 54, none, .mov (.t 1)⟩,
  ⟨some 55, none, .bin .and (.t 54) (.c (.int .u32 67108863))⟩,
  ⟨some 56, none, .fa 5 (.t 5)⟩,
  ⟨none, none, .st (.t 56) (.t 55)⟩])
  (.skip))
def c1_decode_with : C :=
 .seq (.block 0
  (.seq (.ops [⟨some 44, none, .mov (.t 6)⟩,
  ⟨some 45, none, .bin .and (.t 44) (.c (.int .i64 16))⟩,
  ⟨some 46, none, .bin .neq (.t 45) (.c (.int .i64 0))⟩,
  ⟨some 43, none, .mov (.t 46)⟩])
  (.cond (.t 43)
  (.ops [⟨some 47, none, .mov (.t 1)⟩,
  ⟨some 48, none, .bin .and (.t 47) (.c (.int .u32 65535))⟩,
  ⟨some 49, none, .fa 5 (.t 5)⟩,
  ⟨none, none, .st (.t 49) (.t 48)⟩])
  (c0_decode_with))))
  (.seq (.ops [⟨some 57, none, .ldn 6 (.t 5)⟩,
  ⟨none, none, .stn 6 (.t 4) (.t 57)⟩])
  (.ret))
def c2_decode_with : C :=
 .seq (.seq (.ops [⟨some 35, none, .mov (.t 6)⟩,
  ⟨some 36, none, .bin .and (.t 35) (.c (.int .i64 8))⟩,
  ⟨some 37, none, .bin .neq (.t 36) (.c (.int .i64 0))⟩])
  (.cond (.t 37)
  (.ops [⟨some 38, none, .mov (.t 1)⟩,
  ⟨some 39, none, .bin .shr (.t 38) (.c (.int .u64 6))⟩,
  ⟨some 40, none, .bin .and (.t 39) (.c (.int .u32 31))⟩,
  ⟨some 41, none, .conv .i64 (.t 40)⟩,
  ⟨some 42, none, .fa 4 (.t 5)⟩,
  ⟨none, none, .st (.t 42) (.t 41)⟩])
  (.skip)))
  (c1_decode_with)
def c3_decode_with : C :=
 .seq (.seq (.ops [⟨some 27, none, .mov (.t 6)⟩,
  ⟨some 28, none, .bin .and (.t 27) (.c (.int .i64 4))⟩,
  ⟨some 29, none, .bin .neq (.t 28) (.c (.int .i64 0))⟩])
  (.cond (.t 29)
  (.ops [⟨some 30, none, .mov (.t 1)⟩,
  ⟨some 31, none, .bin .shr (.t 30) (.c (.int .u64 11))⟩,
  ⟨some 32, none, .bin .and (.t 31) (.c (.int .u32 31))⟩,
  ⟨some 33, none, .conv .i64 (.t 32)⟩,
  ⟨some 34, none, .fa 3 (.t 5)⟩,
  ⟨none, none, .st (.t 34) (.t 33)⟩])
  (.skip)))
  (c2_decode_with)
def c4_decode_with : C :=
 .seq (.seq (.ops [⟨some 19, none, .mov (.t 6)⟩,
  ⟨some 20, none, .bin .and (.t 19) (.c (.int .i64 2))⟩,
  ⟨some 21, none, .bin .neq (.t 20) (.c (.int .i64 0))⟩])
  (.cond (.t 21)
  (.ops [⟨some 22, none, .mov (.t 1)⟩,
  ⟨some 23, none, .bin .shr (.t 22) (.c (.int .u64 16))⟩,
  ⟨some 24, none, .bin .and (.t 23) (.c (.int .u32 31))⟩,
  ⟨some 25, none, .conv .i64 (.t 24)⟩,
  ⟨some 26, none, .fa 2 (.t 5)⟩,
  ⟨none, none, .st (.t 26) (.t 25)⟩])
  (.skip)))
  (c3_decode_with)
def c5_decode_with : C :=
 .seq (.seq (.ops [⟨some 11, none, .mov (.t 6)⟩,
  ⟨some 12, none, .bin .and (.t 11) (.c (.int .i64 1))⟩,
  ⟨some 13, none, .bin .neq (.t 12) (.c (.int .i64 0))⟩])
  (.cond (.t 13)
  (.ops [⟨some 14, none, .mov (.t 1)⟩,
  ⟨some 15, none, .bin .shr (.t 14) (.c (.int .u64 21))⟩,
  ⟨some 16, none, .bin .and (.t 15) (.c (.int .u32 31))⟩,
  ⟨some 17, none, .conv .i64 (.t 16)⟩,
  ⟨some 18, none, .fa 1 (.t 5)⟩,
  ⟨none, none, .st (.t 18) (.t 17)⟩])
  (.skip)))
  (c4_decode_with)
def c6_decode_with : C :=
 .seq (.ops [⟨some 7, none, .mov (.t 0)⟩,
  ⟨some 8, none, .build [(.int .i64 0), (.int .i64 0), (.int .i64 0), (.int .i64 0), (.int .i64 0), (.int .u32 0)] [(0, 1, (.t 7))]⟩,
  ⟨some 5, none, .new [(.int .i64 0), (.int .i64 0), (.int .i64 0), (.int .i64 0), (.int .i64 0), (.int .u32 0)]⟩,
  ⟨none, none, .stn 6 (.t 5) (.t 8)⟩])
  (.seq (.ops [⟨some 9, none, .mov (.t 0)⟩,
  ⟨some 10, none, .call n_decode_fields [(.t 9)]⟩,
  ⟨some 6, none, .mov (.t 10)⟩])
  (c5_decode_with))
def c_decode_with : C :=
 .seq (.ops [⟨some 4, none, .new [(.int .i64 0), (.int .i64 0), (.int .i64 0), (.int .i64 0), (.int .i64 0), (.int .u32 0)]⟩])
  (c6_decode_with)
def f_decode_with : F := ⟨c_decode_with, [.ldn 6 4], some []⟩
theorem h_decode_with : compF Tryz.prog (compAny Tryz.prog) n_decode_with = some (f_decode_with.body, f_decode_with.res) := by kernel_rfl
def c0_decode_kind : C :=
 .cond (.t 24)
  (.seq (.ops [⟨some 26, none, .mov (.t 0)⟩,
  ⟨some 27, none, .bin .and (.t 26) (.c (.int .u32 63))⟩,
  ⟨some 28, none, .call n_decode_special2 [(.t 27)]⟩,
  ⟨some 2, none, .mov (.t 28)⟩])
  (.ret))
  (.seq (.ops [⟨some 7, none, .mov (.t 3)⟩,
  ⟨some 8, none, .call n_decode_major [(.t 7)]⟩,
  ⟨some 2, none, .mov (.t 8)⟩])
  (.ret))
def c1_decode_kind : C :=
 .seq (.ops [⟨some 21, none, .bin .eql (.t 6) (.c (.int .u32 16))⟩,
  ⟨some 20, none, .mov (.t 21)⟩])
  (.cond (.t 20)
  (.seq (.ops [⟨some 22, none, .mov (.t 0)⟩,
  ⟨some 23, none, .call n_decode_cop0 [(.t 22)]⟩,
  ⟨some 2, none, .mov (.t 23)⟩])
  (.ret))
  (.seq (.ops [⟨some 25, none, .bin .eql (.t 6) (.c (.int .u32 28))⟩,
  ⟨some 24, none, .mov (.t 25)⟩])
  (c0_decode_kind)))
def c2_decode_kind : C :=
 .seq (.ops [⟨some 15, none, .bin .eql (.t 6) (.c (.int .u32 1))⟩,
  ⟨some 14, none, .mov (.t 15)⟩])
  (.cond (.t 14)
  (.seq (.ops [⟨some 16, none, .mov (.t 0)⟩,
  ⟨some 17, none, .bin .shr (.t 16) (.c (.int .u64 16))⟩,
  ⟨some 18, none, .bin .and (.t 17) (.c (.int .u32 31))⟩,
  ⟨some 19, none, .call n_decode_regimm [(.t 18)]⟩,
  ⟨some 2, none, .mov (.t 19)⟩])
  (.ret))
  (c1_decode_kind))
def c3_decode_kind : C :=
 .block 0
  (.seq (.ops [⟨some 10, none, .bin .eql (.t 6) (.c (.int .u32 0))⟩,
  ⟨some 9, none, .mov (.t 10)⟩])
  (.cond (.t 9)
  (.seq (.ops [⟨some 11, none, .mov (.t 0)⟩,
  ⟨some 12, none, .bin .and (.t 11) (.c (.int .u32 63))⟩,
  ⟨some 13, none, .call n_decode_special [(.t 12)]⟩,
  ⟨some 2, none, .mov (.t 13)⟩])
  (.ret))
  (c2_decode_kind)))
def c_decode_kind : C :=
 .seq (.ops [⟨some 2, none, .mov (.c (.int .i64 0))⟩])
  (.seq (.ops [⟨some 4, none, .mov (.t 0)⟩,
  ⟨some 5, none, .bin .shr (.t 4) (.c (.int .u64 26))⟩,
  ⟨some 3, none, .mov (.t 5)⟩])
  (.seq (.ops [⟨some 6, none, .mov (.t 3)⟩])
  (c3_decode_kind)))
def f_decode_kind : F := ⟨c_decode_kind, [.t 2], some []⟩
theorem h_decode_kind : compF Tryz.prog (compAny Tryz.prog) n_decode_kind = some (f_decode_kind.body, f_decode_kind.res) := by kernel_rfl
def c_opt_Opt : C :=
 .seq (.ops [⟨some 2, none, .mov (.c (.slice none 0 0))⟩])
  (.seq (.ops [⟨some 3, none, .mov (.t 0)⟩,
  ⟨some 4, none, .call n_opt_Fold [(.t 3)]⟩,
  ⟨some 5, none, .call n_opt_Dead [(.t 4)]⟩,
  ⟨some 2, none, .mov (.t 5)⟩])
  (.ret))
def f_opt_Opt : F := ⟨c_opt_Opt, [.t 2], some []⟩
theorem h_opt_Opt : compF Tryz.prog (compAny Tryz.prog) n_opt_Opt = some (f_opt_Opt.body, f_opt_Opt.res) := by kernel_rfl
def c0_lift_Of : C :=
 .seq (.ops [⟨some 25, none, .fa 2 (.t 1)⟩,
  ⟨some 26, none, .ld (.t 25)⟩,
  ⟨some 27, none, .fa 5 (.t 1)⟩,
  ⟨some 28, none, .ld (.t 27)⟩,
  ⟨some 29, none, .bin .shl (.t 28) (.c (.int .u64 16))⟩,
  ⟨some 30, none, .build [(.int .i64 0), (.int .i64 0), (.int .i64 0), (.int .i64 0), (.int .u32 0)] [(0, 1, (.c (.int .i64 1))), (1, 1, (.t 26)), (4, 1, (.t 29))]⟩,
  ⟨some 31, none, .bsl 1 [(.int .i64 0), (.int .i64 0), (.int .i64 0), (.int .i64 0), (.int .u32 0)] [(0, 5, (.t 30))]⟩,
  ⟨some 2, none, .mov (.t 31)⟩])
  (.ret)
def c1_lift_Of : C :=
 .seq (.ops [⟨some 35, none, .fa 3 (.t 1)⟩,
  ⟨some 36, none, .ld (.t 35)⟩,
  ⟨some 37, none, .build [(.int .i64 0), (.int .i64 0), (.int .i64 0), (.int .i64 0), (.int .u32 0)] [(0, 1, (.c (.int .i64 2))), (1, 1, (.t 36)), (2, 1, (.c (.int .i64 32)))]⟩,
  ⟨some 38, none, .bsl 1 [(.int .i64 0), (.int .i64 0), (.int .i64 0), (.int .i64 0), (.int .u32 0)] [(0, 5, (.t 37))]⟩,
  ⟨some 2, none, .mov (.t 38)⟩])
  (.ret)
def c2_lift_Of : C :=
 .seq (.ops [⟨some 42, none, .fa 3 (.t 1)⟩,
  ⟨some 43, none, .ld (.t 42)⟩,
  ⟨some 44, none, .build [(.int .i64 0), (.int .i64 0), (.int .i64 0), (.int .i64 0), (.int .u32 0)] [(0, 1, (.c (.int .i64 2))), (1, 1, (.t 43)), (2, 1, (.c (.int .i64 33)))]⟩,
  ⟨some 45, none, .bsl 1 [(.int .i64 0), (.int .i64 0), (.int .i64 0), (.int .i64 0), (.int .u32 0)] [(0, 5, (.t 44))]⟩,
  ⟨some 2, none, .mov (.t 45)⟩])
  (.ret)
def c3_lift_Of : C :=
 .seq (.ops [⟨some 49, none, .fa 1 (.t 1)⟩,
  ⟨some 50, none, .ld (.t 49)⟩,
  ⟨some 51, none, .build [(.int .i64 0), (.int .i64 0), (.int .i64 0), (.int .i64 0), (.int .u32 0)] [(0, 1, (.c (.int .i64 2))), (1, 1, (.c (.int .i64 32))), (2, 1, (.t 50))]⟩,
  ⟨some 52, none, .bsl 1 [(.int .i64 0), (.int .i64 0), (.int .i64 0), (.int .i64 0), (.int .u32 0)] [(0, 5, (.t 51))]⟩,
  ⟨some 2, none, .mov (.t 52)⟩])
  (.ret)
def c4_lift_Of : C :=
 .seq (.ops [⟨some 56, none, .fa 1 (.t 1)⟩,
  ⟨some 57, none, .ld (.t 56)⟩,
  ⟨some 58, none, .build [(.int .i64 0), (.int .i64 0), (.int .i64 0), (.int .i64 0), (.int .u32 0)] [(0, 1, (.c (.int .i64 2))), (1, 1, (.c (.int .i64 33))), (2, 1, (.t 57))]⟩,
  ⟨some 59, none, .bsl 1 [(.int .i64 0), (.int .i64 0), (.int .i64 0), (.int .i64 0), (.int .u32 0)] [(0, 5, (.t 58))]⟩,
  ⟨some 2, none, .mov (.t 59)⟩])
  (.ret)
def c5_lift_Of : C :=
 .seq (.any 1 [.op 0 ⟨some 63, none, .fa 4 (.t 1)⟩,
  .op 1 ⟨some 64, none, .ld (.t 63)⟩,
  .op 6 ⟨some 69, none, .fa 3 (.t 1)⟩,
  .op 7 ⟨some 70, none, .ld (.t 69)⟩,
  .op 8 ⟨some 71, none, .fa 2 (.t 1)⟩,
  .op 9 ⟨some 72, none, .ld (.t 71)⟩,
  .op 4 ⟨some 67, none, .mov (.t 3)⟩,
  .op 5 ⟨some 68, none, .call n_lift_kind [(.t 67)]⟩,
  .re 1 ⟨some 64, none, .ld (.t 63)⟩,
  .re 7 ⟨some 70, none, .ld (.t 69)⟩,
  .re 9 ⟨some 72, none, .ld (.t 71)⟩,
  .op 2 ⟨some 65, none, .conv .u32 (.t 64)⟩,
  .op 3 ⟨some 66, none, .build [(.int .i64 0), (.int .i64 0), (.int .i64 0), (.int .i64 0), (.int .u32 0)] [(0, 1, (.c (.int .i64 1))), (1, 1, (.c (.int .i64 34))), (4, 1, (.t 65))]⟩,
  .op 10 ⟨some 73, none, .build [(.int .i64 0), (.int .i64 0), (.int .i64 0), (.int .i64 0), (.int .u32 0)] [(0, 1, (.t 68)), (1, 1, (.t 70)), (2, 1, (.t 72)), (3, 1, (.c (.int .i64 34)))]⟩,
  .al 11 0 ⟨some 74, none, .bsl 2 [(.int .i64 0), (.int .i64 0), (.int .i64 0), (.int .i64 0), (.int .u32 0), (.int .i64 0), (.int .i64 0), (.int .i64 0), (.int .i64 0), (.int .u32 0)] [(0, 5, (.t 66)), (5, 5, (.t 73))]⟩,
  .op 12 ⟨some 2, none, .mov (.t 74)⟩])
  (.ret)
def c6_lift_Of : C :=
 .seq (.any 1 [.op 2 ⟨some 80, none, .fa 3 (.t 1)⟩,
  .op 3 ⟨some 81, none, .ld (.t 80)⟩,
  .op 4 ⟨some 82, none, .fa 2 (.t 1)⟩,
  .op 5 ⟨some 83, none, .ld (.t 82)⟩,
  .op 6 ⟨some 84, none, .fa 1 (.t 1)⟩,
  .op 7 ⟨some 85, none, .ld (.t 84)⟩,
  .op 0 ⟨some 78, none, .mov (.t 3)⟩,
  .op 1 ⟨some 79, none, .call n_lift_kind [(.t 78)]⟩,
  .re 3 ⟨some 81, none, .ld (.t 80)⟩,
  .re 5 ⟨some 83, none, .ld (.t 82)⟩,
  .re 7 ⟨some 85, none, .ld (.t 84)⟩,
  .op 8 ⟨some 86, none, .build [(.int .i64 0), (.int .i64 0), (.int .i64 0), (.int .i64 0), (.int .u32 0)] [(0, 1, (.t 79)), (1, 1, (.t 81)), (2, 1, (.t 83)), (3, 1, (.t 85))]⟩,
  .al 9 0 ⟨some 87, none, .bsl 1 [(.int .i64 0), (.int .i64 0), (.int .i64 0), (.int .i64 0), (.int .u32 0)] [(0, 5, (.t 86))]⟩,
  .op 10 ⟨some 2, none, .mov (.t 87)⟩])
  (.ret)
def c7_lift_Of : C :=
 .seq (.any 1 [.op 0 ⟨some 102, none, .ldn 6 (.t 1)⟩,
  .op 5 ⟨some 107, none, .fa 2 (.t 1)⟩,
  .op 6 ⟨some 108, none, .ld (.t 107)⟩,
  .op 7 ⟨some 109, none, .fa 1 (.t 1)⟩,
  .op 8 ⟨some 110, none, .ld (.t 109)⟩,
  .op 1 ⟨some 103, none, .call n_lift_imm [(.t 102)]⟩,
  .re 6 ⟨some 108, none, .ld (.t 107)⟩,
  .re 8 ⟨some 110, none, .ld (.t 109)⟩,
  .op 3 ⟨some 105, none, .mov (.t 3)⟩,
  .op 4 ⟨some 106, none, .call n_lift_kind [(.t 105)]⟩,
  .re 6 ⟨some 108, none, .ld (.t 107)⟩,
  .re 8 ⟨some 110, none, .ld (.t 109)⟩,
  .op 2 ⟨some 104, none, .build [(.int .i64 0), (.int .i64 0), (.int .i64 0), (.int .i64 0), (.int .u32 0)] [(0, 1, (.c (.int .i64 1))), (1, 1, (.c (.int .i64 34))), (4, 1, (.t 103))]⟩,
  .op 9 ⟨some 111, none, .build [(.int .i64 0), (.int .i64 0), (.int .i64 0), (.int .i64 0), (.int .u32 0)] [(0, 1, (.t 106)), (1, 1, (.t 108)), (2, 1, (.t 110)), (3, 1, (.c (.int .i64 34)))]⟩,
  .al 10 0 ⟨some 112, none, .bsl 2 [(.int .i64 0), (.int .i64 0), (.int .i64 0), (.int .i64 0), (.int .u32 0), (.int .i64 0), (.int .i64 0), (.int .i64 0), (.int .i64 0), (.int .u32 0)] [(0, 5, (.t 104)), (5, 5, (.t 111))]⟩,
  .op 11 ⟨some 2, none, .mov (.t 112)⟩])
  (.ret)
def c8_lift_Of : C :=
 .seq (.any 0 [.op 0 ⟨some 89, none, .ldn 6 (.t 1)⟩,
  .op 2 ⟨some 91, none, .fa 2 (.t 1)⟩,
  .op 3 ⟨some 92, none, .ld (.t 91)⟩,
  .op 1 ⟨some 90, none, .call n_alu_Into [(.t 89)]⟩,
  .re 3 ⟨some 92, none, .ld (.t 91)⟩,
  .op 4 ⟨some 93, none, .bin .eql (.t 90) (.t 92)⟩,
  .op 5 ⟨some 94, none, .mov (.t 93)⟩,
  .op 6 ⟨some 95, some (94, true), .mov (.t 3)⟩,
  .op 7 ⟨some 96, some (94, true), .bin .geq (.t 95) (.c (.int .i64 46))⟩,
  .op 8 ⟨some 97, none, .pick (.t 94) (.t 96) (.c (.bool false))⟩,
  .op 9 ⟨some 98, none, .mov (.t 97)⟩,
  .op 10 ⟨some 99, some (98, true), .mov (.t 3)⟩,
  .op 11 ⟨some 100, some (98, true), .bin .leq (.t 99) (.c (.int .i64 52))⟩,
  .op 12 ⟨some 101, none, .pick (.t 98) (.t 100) (.c (.bool false))⟩,
  .op 13 ⟨some 88, none, .mov (.t 101)⟩])
  (.cond (.t 88)
  (c7_lift_Of)
  (.skip))
def c9_lift_Of : C :=
 .seq (.ops [⟨some 61, none, .mov (.t 3)⟩,
  ⟨some 62, none, .bin .leq (.t 61) (.c (.int .i64 3))⟩,
  ⟨some 60, none, .mov (.t 62)⟩])
  (.cond (.t 60)
  (c5_lift_Of)
  (.seq (.ops [⟨some 76, none, .mov (.t 3)⟩,
  ⟨some 77, none, .bin .leq (.t 76) (.c (.int .i64 6))⟩,
  ⟨some 75, none, .mov (.t 77)⟩])
  (.cond (.t 75)
  (c6_lift_Of)
  (c8_lift_Of))))
def c10_lift_Of : C :=
 .seq (.ops [⟨some 47, none, .mov (.t 3)⟩,
  ⟨some 48, none, .bin .eql (.t 47) (.c (.int .i64 15))⟩,
  ⟨some 46, none, .mov (.t 48)⟩])
  (.cond (.t 46)
  (c3_lift_Of)
  (.seq (.ops [⟨some 54, none, .mov (.t 3)⟩,
  ⟨some 55, none, .bin .eql (.t 54) (.c (.int .i64 17))⟩,
  ⟨some 53, none, .mov (.t 55)⟩])
  (.cond (.t 53)
  (c4_lift_Of)
  (c9_lift_Of))))
def c11_lift_Of : C :=
 .seq (.ops [⟨some 33, none, .mov (.t 3)⟩,
  ⟨some 34, none, .bin .eql (.t 33) (.c (.int .i64 14))⟩,
  ⟨some 32, none, .mov (.t 34)⟩])
  (.cond (.t 32)
  (c1_lift_Of)
  (.seq (.ops [⟨some 40, none, .mov (.t 3)⟩,
  ⟨some 41, none, .bin .eql (.t 40) (.c (.int .i64 16))⟩,
  ⟨some 39, none, .mov (.t 41)⟩])
  (.cond (.t 39)
  (c2_lift_Of)
  (c10_lift_Of))))
def c12_lift_Of : C :=
 .seq (.any 1 [.op 2 ⟨some 115, none, .fa 3 (.t 1)⟩,
  .op 3 ⟨some 116, none, .ld (.t 115)⟩,
  .op 4 ⟨some 117, none, .fa 1 (.t 1)⟩,
  .op 5 ⟨some 118, none, .ld (.t 117)⟩,
  .op 6 ⟨some 119, none, .fa 2 (.t 1)⟩,
  .op 7 ⟨some 120, none, .ld (.t 119)⟩,
  .op 0 ⟨some 113, none, .mov (.t 3)⟩,
  .op 1 ⟨some 114, none, .call n_lift_kind [(.t 113)]⟩,
  .re 3 ⟨some 116, none, .ld (.t 115)⟩,
  .re 5 ⟨some 118, none, .ld (.t 117)⟩,
  .re 7 ⟨some 120, none, .ld (.t 119)⟩,
  .op 8 ⟨some 121, none, .build [(.int .i64 0), (.int .i64 0), (.int .i64 0), (.int .i64 0), (.int .u32 0)] [(0, 1, (.t 114)), (1, 1, (.t 116)), (2, 1, (.t 118)), (3, 1, (.t 120))]⟩,
  .al 9 0 ⟨some 122, none, .bsl 1 [(.int .i64 0), (.int .i64 0), (.int .i64 0), (.int .i64 0), (.int .u32 0)] [(0, 5, (.t 121))]⟩,
  .op 10 ⟨some 2, none, .mov (.t 122)⟩])
  (.ret)
def c13_lift_Of : C :=
 .seq (.block 0
  (.seq (.ops [⟨some 7, none, .ldn 6 (.t 1)⟩,
  ⟨some 8, none, .call n_lift_Is [(.t 7)]⟩,
  ⟨some 9, none, .un .not (.t 8)⟩,
  ⟨some 10, none, .mov (.t 9)⟩,
  ⟨some 11, some (10, false), .mov (.t 3)⟩,
  ⟨some 12, some (10, false), .bin .eql (.t 11) (.c (.int .i64 13))⟩,
  ⟨some 13, none, .pick (.t 10) (.c (.bool true)) (.t 12)⟩,
  ⟨some 14, none, .mov (.t 13)⟩,
  ⟨some 15, some (14, false), .mov (.t 3)⟩,
  ⟨some 16, some (14, false), .bin .eql (.t 15) (.c (.int .i64 76))⟩,
  ⟨some 17, none, .pick (.t 14) (.c (.bool true)) (.t 16)⟩,
  ⟨some 18, none, .mov (.t 17)⟩,
  ⟨some 19, some (18, false), .mov (.t 3)⟩,
  ⟨some 20, some (18, false), .bin .eql (.t 19) (.c (.int .i64 77))⟩,
  ⟨some 21, none, .pick (.t 18) (.c (.bool true)) (.t 20)⟩,
  ⟨some 6, none, .mov (.t 21)⟩])
  (.cond (.t 6)
  (.seq (.ops [⟨some 2, none, .mov (.c (.slice none 0 0))⟩])
  (.ret))
  (.seq (.ops [⟨some 23, none, .mov (.t 3)⟩,
  ⟨some 24, none, .bin .eql (.t 23) (.c (.int .i64 53))⟩,
  ⟨some 22, none, .mov (.t 24)⟩])
  (.cond (.t 22)
  (c0_lift_Of)
  (c11_lift_Of))))))
  (c12_lift_Of)
def c_lift_Of : C :=
 .seq (.ops [⟨some 1, none, .box (.t 0)⟩,
  ⟨some 2, none, .mov (.c (.slice none 0 0))⟩])
  (.seq (.ops [⟨some 4, none, .fa 0 (.t 1)⟩,
  ⟨some 5, none, .ld (.t 4)⟩,
  ⟨some 3, none, .mov (.t 5)⟩])
  (c13_lift_Of))
def f_lift_Of : F := ⟨c_lift_Of, [.t 2], some []⟩
theorem h_lift_Of : compF Tryz.prog (compAny Tryz.prog) n_lift_Of = some (f_lift_Of.body, f_lift_Of.res) := by kernel_rfl
end Go.Proofs.YtmgoleiafiffoaaGreat.Cd

set_option maxRecDepth 100000
set_option linter.defProp false
namespace Go.Proofs.YtmgoleiafiffoaaGreat.Cd
open Go Go.Dx
def c0_pianolaref3_has : C :=
 .seq (.block 1
  (.seq (.ops [⟨some 12, none, .mov (.t 0)⟩,
  ⟨some 13, none, .mov (.t 5)⟩,
  ⟨some 14, none, .ixs (.t 12) (.t 13)⟩,
  ⟨some 15, none, .mov (.t 1)⟩,
  ⟨some 16, none, .bin .eql (.t 14) (.t 15)⟩])
  (.cond (.t 16)
  (.seq (.ops [⟨some 4, none, .mov (.c (.bool true))⟩])
  (.ret))
  (.skip))))
  (.ops [⟨some 10, none, .mov (.t 5)⟩,
  ⟨some 11, none, .bin .add (.t 10) (.c (.int .i64 1))⟩,
  ⟨some 5, none, .mov (.t 11)⟩])
def c1_pianolaref3_has : C :=
 .seq (.seq (.ops [⟨some 6, none, .mov (.t 5)⟩,
  ⟨some 7, none, .mov (.t 0)⟩,
  ⟨some 8, none, .len 0 (.t 7)⟩,
  ⟨some 9, none, .bin .lss (.t 6) (.t 8)⟩])
  (.cond (.t 9)
  (.skip)
  (.exit 0)))
  (c0_pianolaref3_has)
def c_pianolaref3_has : C :=
 .seq (.ops [⟨some 4, none, .mov (.c (.bool false))⟩])
  (.seq (.seq (.ops [⟨some 5, none, .mov (.c (.int .i64 0))⟩])
  (.block 0
  (.loop c1_pianolaref3_has)))
  (.seq (.ops [⟨some 4, none, .mov (.c (.bool false))⟩])
  (.ret)))
def f_pianolaref3_has : F := ⟨c_pianolaref3_has, [.t 4], some []⟩
theorem h_pianolaref3_has : compF Tryz.prog (compAny Tryz.prog) n_pianolaref3_has = some (f_pianolaref3_has.body, f_pianolaref3_has.res) := by kernel_rfl
end Go.Proofs.YtmgoleiafiffoaaGreat.Cd

set_option maxRecDepth 100000
set_option linter.defProp false
namespace Go.Proofs.YtmgoleiafiffoaaGreat.Cd
open Go Go.Dx
def c0_pianolaref3_Right : C :=
 .seq (.any 0 [.op 0 ⟨some 21, none, .fa 1 (.t 1)⟩,
  .op 1 ⟨some 22, none, .ld (.t 21)⟩,
  .op 2 ⟨some 23, none, .mov (.t 5)⟩,
  .op 3 ⟨some 24, none, .call n_pianolaref3_has [(.t 23), (.c (.int .u8 115))]⟩,
  .re 1 ⟨some 22, none, .ld (.t 21)⟩,
  .op 4 ⟨some 25, none, .call n_pianolaref3_small [(.t 22), (.t 24)]⟩,
  .op 5 ⟨some 26, none, .mov (.t 25)⟩,
  .op 6 ⟨some 27, some (26, true), .fa 2 (.t 1)⟩,
  .op 7 ⟨some 28, some (26, true), .ld (.t 27)⟩,
  .op 8 ⟨some 29, some (26, true), .mov (.t 5)⟩,
  .op 9 ⟨some 30, some (26, true), .call n_pianolaref3_has [(.t 29), (.c (.int .u8 116))]⟩,
  .re 7 ⟨some 28, some (26, true), .ld (.t 27)⟩,
  .op 10 ⟨some 31, some (26, true), .call n_pianolaref3_small [(.t 28), (.t 30)]⟩,
  .op 11 ⟨some 32, none, .pick (.t 26) (.t 31) (.c (.bool false))⟩,
  .op 12 ⟨some 33, none, .mov (.t 32)⟩,
  .op 13 ⟨some 34, some (33, true), .fa 3 (.t 1)⟩,
  .op 14 ⟨some 35, some (33, true), .ld (.t 34)⟩,
  .op 15 ⟨some 36, some (33, true), .mov (.t 5)⟩,
  .op 16 ⟨some 37, some (33, true), .call n_pianolaref3_has [(.t 36), (.c (.int .u8 100))]⟩,
  .re 14 ⟨some 35, some (33, true), .ld (.t 34)⟩,
  .op 17 ⟨some 38, some (33, true), .call n_pianolaref3_small [(.t 35), (.t 37)]⟩,
  .op 18 ⟨some 39, none, .pick (.t 33) (.t 38) (.c (.bool false))⟩,
  .op 19 ⟨some 40, none, .mov (.t 39)⟩,
  .op 20 ⟨some 41, some (40, true), .fa 4 (.t 1)⟩,
  .op 21 ⟨some 42, some (40, true), .ld (.t 41)⟩,
  .op 22 ⟨some 43, some (40, true), .mov (.t 5)⟩,
  .op 23 ⟨some 44, some (40, true), .call n_pianolaref3_has [(.t 43), (.c (.int .u8 104))]⟩,
  .re 21 ⟨some 42, some (40, true), .ld (.t 41)⟩,
  .op 24 ⟨some 45, some (40, true), .call n_pianolaref3_small [(.t 42), (.t 44)]⟩,
  .op 25 ⟨some 46, none, .pick (.t 40) (.t 45) (.c (.bool false))⟩,
  .op 26 ⟨some 47, none, .mov (.t 46)⟩,
  .op 27 ⟨some 48, some (47, true), .fa 5 (.t 1)⟩,
  .op 28 ⟨some 49, some (47, true), .ld (.t 48)⟩,
  .op 29 ⟨some 50, some (47, true), .mov (.t 6)⟩,
  .op 30 ⟨some 51, some (47, true), .bin .leq (.t 49) (.t 50)⟩,
  .op 31 ⟨some 52, none, .pick (.t 47) (.t 51) (.c (.bool false))⟩,
  .op 32 ⟨some 2, none, .mov (.t 52)⟩])
  (.ret)
def c1_pianolaref3_Right : C :=
 .seq (.seq (.ops [⟨some 17, none, .mov (.t 5)⟩,
  ⟨some 18, none, .call n_pianolaref3_has [(.t 17), (.c (.int .u8 105))]⟩])
  (.cond (.t 18)
  (.ops [⟨some 6, none, .mov (.c (.int .u32 65535))⟩])
  (.seq (.ops [⟨some 19, none, .mov (.t 5)⟩,
  ⟨some 20, none, .call n_pianolaref3_has [(.t 19), (.c (.int .u8 106))]⟩])
  (.cond (.t 20)
  (.ops [⟨some 6, none, .mov (.c (.int .u32 67108863))⟩])
  (.skip)))))
  (c0_pianolaref3_Right)
def c2_pianolaref3_Right : C :=
 .seq (.seq (.ops [⟨some 13, none, .mov (.t 4)⟩,
  ⟨some 14, none, .un .not (.t 13)⟩])
  (.cond (.t 14)
  (.seq (.ops [⟨some 2, none, .mov (.c (.bool false))⟩])
  (.ret))
  (.skip)))
  (.seq (.ops [⟨some 15, none, .fa 3 (.t 3)⟩,
  ⟨some 16, none, .ld (.t 15)⟩,
  ⟨some 5, none, .mov (.t 16)⟩])
  (.seq (.ops [⟨some 6, none, .mov (.c (.int .u32 0))⟩])
  (c1_pianolaref3_Right)))
def c3_pianolaref3_Right : C :=
 .seq (.ops [⟨some 8, none, .fa 0 (.t 1)⟩,
  ⟨some 9, none, .ld (.t 8)⟩,
  ⟨some 10, none, .call n_pianolaref3_find [(.t 9)]⟩,
  ⟨some 7, none, .mov (.t 10)⟩,
  ⟨some 11, none, .ext (.t 7) 0⟩,
  ⟨some 12, none, .ext (.t 7) 1⟩,
  ⟨some 3, none, .new [(.int .i64 0), (.int .i64 0), (.int .i64 0), (.string .empty)]⟩,
  ⟨none, none, .stn 4 (.t 3) (.t 11)⟩,
  ⟨some 4, none, .mov (.t 12)⟩])
  (c2_pianolaref3_Right)
def c_pianolaref3_Right : C :=
 .seq (.ops [⟨some 1, none, .box (.t 0)⟩,
  ⟨some 2, none, .mov (.c (.bool false))⟩])
  (c3_pianolaref3_Right)
def f_pianolaref3_Right : F := ⟨c_pianolaref3_Right, [.t 2], some []⟩
theorem h_pianolaref3_Right : compF Tryz.prog (compAny Tryz.prog) n_pianolaref3_Right = some (f_pianolaref3_Right.body, f_pianolaref3_Right.res) := by kernel_rfl
def c0_pianolaref3_find : C :=
 .seq (.block 3
  (.seq (.ops [⟨some 24, none, .mov (.t 5)⟩,
  ⟨some 25, none, .mov (.t 6)⟩,
  ⟨some 26, none, .ia 4 (.t 24) (.t 25)⟩,
  ⟨some 27, none, .fa 2 (.t 26)⟩,
  ⟨some 28, none, .ld (.t 27)⟩,
  ⟨some 29, none, .mov (.t 0)⟩,
  ⟨some 30, none, .bin .eql (.t 28) (.t 29)⟩])
  (.cond (.t 30)
  (.seq (.ops [⟨some 31, none, .mov (.t 5)⟩,
  ⟨some 32, none, .mov (.t 6)⟩,
  ⟨some 33, none, .ia 4 (.t 31) (.t 32)⟩,
  ⟨some 34, none, .ldn 4 (.t 33)⟩,
  ⟨none, none, .stn 4 (.t 2) (.t 34)⟩,
  ⟨some 3, none, .mov (.c (.bool true))⟩])
  (.ret))
  (.skip))))
  (.ops [⟨some 22, none, .mov (.t 6)⟩,
  ⟨some 23, none, .bin .add (.t 22) (.c (.int .i64 1))⟩,
  ⟨some 6, none, .mov (.t 23)⟩])
def c1_pianolaref3_find : C :=
 .seq (.seq (.ops [⟨some 18, none, .mov (.t 6)⟩,
  ⟨some 19, none, .mov (.t 5)⟩,
  ⟨some 20, none, .len 1 (.t 19)⟩,
  ⟨some 21, none, .bin .lss (.t 18) (.t 20)⟩])
  (.cond (.t 21)
  (.skip)
  (.exit 2)))
  (c0_pianolaref3_find)
def c2_pianolaref3_find : C :=
 .seq (.seq (.ops [⟨some 12, none, .mov (.t 4)⟩,
  ⟨some 13, none, .bin .eql (.t 12) (.c (.int .i64 1))⟩])
  (.cond (.t 13)
  (.ops [⟨some 14, none, .call n_pianolaref3_plain []⟩,
  ⟨some 5, none, .mov (.t 14)⟩])
  (.seq (.ops [⟨some 15, none, .mov (.t 4)⟩,
  ⟨some 16, none, .bin .eql (.t 15) (.c (.int .i64 2))⟩])
  (.cond (.t 16)
  (.ops [⟨some 17, none, .call n_pianolaref3_others []⟩,
  ⟨some 5, none, .mov (.t 17)⟩])
  (.skip)))))
  (.seq (.ops [⟨some 6, none, .mov (.c (.int .i64 0))⟩])
  (.block 2
  (.loop c1_pianolaref3_find)))
def c3_pianolaref3_find : C :=
 .seq (.seq (.ops [⟨some 7, none, .mov (.t 4)⟩,
  ⟨some 8, none, .bin .lss (.t 7) (.c (.int .i64 3))⟩])
  (.cond (.t 8)
  (.skip)
  (.exit 0)))
  (.seq (.block 1
  (.seq (.ops [⟨some 11, none, .call n_pianolaref3_special []⟩,
  ⟨some 5, none, .mov (.t 11)⟩])
  (c2_pianolaref3_find)))
  (.ops [⟨some 9, none, .mov (.t 4)⟩,
  ⟨some 10, none, .bin .add (.t 9) (.c (.int .i64 1))⟩,
  ⟨some 4, none, .mov (.t 10)⟩]))
def c_pianolaref3_find : C :=
 .seq (.ops [⟨some 2, none, .new [(.int .i64 0), (.int .i64 0), (.int .i64 0), (.string .empty)]⟩,
  ⟨some 3, none, .mov (.c (.bool false))⟩])
  (.seq (.seq (.ops [⟨some 4, none, .mov (.c (.int .i64 0))⟩])
  (.block 0
  (.loop c3_pianolaref3_find)))
  (.seq (.ops [⟨some 35, none, .build [(.int .i64 0), (.int .i64 0), (.int .i64 0), (.string .empty)] []⟩,
  ⟨none, none, .stn 4 (.t 2) (.t 35)⟩,
  ⟨some 3, none, .mov (.c (.bool false))⟩])
  (.ret)))
def f_pianolaref3_find : F := ⟨c_pianolaref3_find, [.ldn 4 2, .t 3], some []⟩
theorem h_pianolaref3_find : compF Tryz.prog (compAny Tryz.prog) n_pianolaref3_find = some (f_pianolaref3_find.body, f_pianolaref3_find.res) := by kernel_rfl
def c0_pianolakeep_near : C :=
 .seq (.seq (.ops [⟨some 6, none, .mov (.t 3)⟩,
  ⟨some 7, none, .bin .rem (.t 6) (.c (.int .i64 8))⟩,
  ⟨some 8, none, .bin .eql (.t 7) (.c (.int .i64 7))⟩])
  (.cond (.t 8)
  (.seq (.ops [⟨some 9, none, .mov (.t 3)⟩,
  ⟨some 10, none, .bin .quo (.t 9) (.c (.int .i64 8))⟩,
  ⟨some 11, none, .bin .rem (.t 10) (.c (.int .i64 32))⟩,
  ⟨some 2, none, .mov (.t 11)⟩])
  (.ret))
  (.skip)))
  (.seq (.ops [⟨some 12, none, .mov (.t 3)⟩,
  ⟨some 13, none, .bin .quo (.t 12) (.c (.int .i64 8))⟩,
  ⟨some 14, none, .bin .rem (.t 13) (.c (.int .i64 8))⟩,
  ⟨some 2, none, .mov (.t 14)⟩])
  (.ret))
def c_pianolakeep_near : C :=
 .seq (.ops [⟨some 2, none, .mov (.c (.int .i64 0))⟩])
  (.seq (.ops [⟨some 4, none, .mov (.t 0)⟩,
  ⟨some 5, none, .call n_pianolabook_Within [(.t 4), (.c (.int .i64 0)), (.c (.int .i64 1048576))]⟩,
  ⟨some 3, none, .mov (.t 5)⟩])
  (c0_pianolakeep_near))
def f_pianolakeep_near : F := ⟨c_pianolakeep_near, [.t 2], some []⟩
theorem h_pianolakeep_near : compF Tryz.prog (compAny Tryz.prog) n_pianolakeep_near = some (f_pianolakeep_near.body, f_pianolakeep_near.res) := by kernel_rfl
def c0_pianolakeep_only : C :=
 .seq (.ops [⟨some 24, none, .bin .eql (.t 9) (.c (.int .i64 4))⟩,
  ⟨some 23, none, .mov (.t 24)⟩])
  (.cond (.t 23)
  (.ops [⟨some 25, none, .fa 5 (.t 2)⟩,
  ⟨some 26, none, .ld (.t 25)⟩,
  ⟨some 27, none, .fa 5 (.t 5)⟩,
  ⟨none, none, .st (.t 27) (.t 26)⟩])
  (.ops [⟨some 10, none, .fa 5 (.t 5)⟩,
  ⟨none, none, .st (.t 10) (.c (.int .u32 1))⟩]))
def c1_pianolakeep_only : C :=
 .cond (.t 17)
  (.ops [⟨some 19, none, .fa 3 (.t 5)⟩,
  ⟨none, none, .st (.t 19) (.c (.int .i64 1))⟩])
  (.seq (.ops [⟨some 21, none, .bin .eql (.t 9) (.c (.int .i64 3))⟩,
  ⟨some 20, none, .mov (.t 21)⟩])
  (.cond (.t 20)
  (.ops [⟨some 22, none, .fa 4 (.t 5)⟩,
  ⟨none, none, .st (.t 22) (.c (.int .i64 1))⟩])
  (c0_pianolakeep_only)))
def c2_pianolakeep_only : C :=
 .seq (.ops [⟨some 15, none, .bin .eql (.t 9) (.c (.int .i64 1))⟩,
  ⟨some 14, none, .mov (.t 15)⟩])
  (.cond (.t 14)
  (.ops [⟨some 16, none, .fa 2 (.t 5)⟩,
  ⟨none, none, .st (.t 16) (.c (.int .i64 1))⟩])
  (.seq (.ops [⟨some 18, none, .bin .eql (.t 9) (.c (.int .i64 2))⟩,
  ⟨some 17, none, .mov (.t 18)⟩])
  (c1_pianolakeep_only)))
def c3_pianolakeep_only : C :=
 .seq (.seq (.ops [⟨some 9, none, .mov (.t 1)⟩])
  (.block 0
  (.seq (.ops [⟨some 12, none, .bin .eql (.t 9) (.c (.int .i64 0))⟩,
  ⟨some 11, none, .mov (.t 12)⟩])
  (.cond (.t 11)
  (.ops [⟨some 13, none, .fa 1 (.t 5)⟩,
  ⟨none, none, .st (.t 13) (.c (.int .i64 1))⟩])
  (c2_pianolakeep_only)))))
  (.seq (.ops [⟨some 28, none, .ldn 6 (.t 5)⟩,
  ⟨none, none, .stn 6 (.t 4) (.t 28)⟩])
  (.ret))
def c4_pianolakeep_only : C :=
 .seq (.ops [⟨some 6, none, .fa 0 (.t 2)⟩,
  ⟨some 7, none, .ld (.t 6)⟩,
  ⟨some 8, none, .build [(.int .i64 0), (.int .i64 0), (.int .i64 0), (.int .i64 0), (.int .i64 0), (.int .u32 0)] [(0, 1, (.t 7))]⟩,
  ⟨some 5, none, .new [(.int .i64 0), (.int .i64 0), (.int .i64 0), (.int .i64 0), (.int .i64 0), (.int .u32 0)]⟩,
  ⟨none, none, .stn 6 (.t 5) (.t 8)⟩])
  (c3_pianolakeep_only)
def c_pianolakeep_only : C :=
 .seq (.ops [⟨some 2, none, .box (.t 0)⟩,
  ⟨some 4, none, .new [(.int .i64 0), (.int .i64 0), (.int .i64 0), (.int .i64 0), (.int .i64 0), (.int .u32 0)]⟩])
  (c4_pianolakeep_only)
def f_pianolakeep_only : F := ⟨c_pianolakeep_only, [.ldn 6 4], some []⟩
theorem h_pianolakeep_only : compF Tryz.prog (compAny Tryz.prog) n_pianolakeep_only = some (f_pianolakeep_only.body, f_pianolakeep_only.res) := by kernel_rfl
def c0_decode_fields : C :=
 .seq (.ops [⟨some 130, none, .mov (.t 0)⟩,
  ⟨some 131, none, .bin .eql (.t 130) (.c (.int .i64 54))⟩,
  ⟨some 132, none, .mov (.t 131)⟩,
  ⟨some 133, some (132, false), .mov (.t 0)⟩,
  ⟨some 134, some (132, false), .bin .eql (.t 133) (.c (.int .i64 55))⟩,
  ⟨some 135, none, .pick (.t 132) (.c (.bool true)) (.t 134)⟩,
  ⟨some 129, none, .mov (.t 135)⟩])
  (.cond (.t 129)
  (.seq (.ops [⟨some 2, none, .mov (.c (.int .i64 6))⟩])
  (.ret))
  (.skip))
def c1_decode_fields : C :=
 .cond (.t 103)
  (.seq (.ops [⟨some 2, none, .mov (.c (.int .i64 19))⟩])
  (.ret))
  (.seq (.ops [⟨some 127, none, .mov (.t 0)⟩,
  ⟨some 128, none, .bin .eql (.t 127) (.c (.int .i64 53))⟩,
  ⟨some 126, none, .mov (.t 128)⟩])
  (.cond (.t 126)
  (.seq (.ops [⟨some 2, none, .mov (.c (.int .i64 18))⟩])
  (.ret))
  (c0_decode_fields)))
def c2_decode_fields : C :=
 .seq (.ops [⟨some 104, none, .mov (.t 0)⟩,
  ⟨some 105, none, .bin .eql (.t 104) (.c (.int .i64 42))⟩,
  ⟨some 106, none, .mov (.t 105)⟩,
  ⟨some 107, some (106, false), .mov (.t 0)⟩,
  ⟨some 108, some (106, false), .bin .eql (.t 107) (.c (.int .i64 43))⟩,
  ⟨some 109, none, .pick (.t 106) (.c (.bool true)) (.t 108)⟩,
  ⟨some 110, none, .mov (.t 109)⟩,
  ⟨some 111, some (110, false), .mov (.t 0)⟩,
  ⟨some 112, some (110, false), .bin .geq (.t 111) (.c (.int .i64 46))⟩,
  ⟨some 113, some (110, false), .mov (.t 112)⟩,
  ⟨some 114, some (113, true), .mov (.t 0)⟩,
  ⟨some 115, some (113, true), .bin .leq (.t 114) (.c (.int .i64 52))⟩,
  ⟨some 116, some (110, false), .pick (.t 113) (.t 115) (.c (.bool false))⟩,
  ⟨some 117, none, .pick (.t 110) (.c (.bool true)) (.t 116)⟩,
  ⟨some 118, none, .mov (.t 117)⟩,
  ⟨some 119, some (118, false), .mov (.t 0)⟩,
  ⟨some 120, some (118, false), .bin .geq (.t 119) (.c (.int .i64 66))⟩,
  ⟨some 121, some (118, false), .mov (.t 120)⟩,
  ⟨some 122, some (121, true), .mov (.t 0)⟩,
  ⟨some 123, some (121, true), .bin .leq (.t 122) (.c (.int .i64 75))⟩,
  ⟨some 124, some (118, false), .pick (.t 121) (.t 123) (.c (.bool false))⟩,
  ⟨some 125, none, .pick (.t 118) (.c (.bool true)) (.t 124)⟩,
  ⟨some 103, none, .mov (.t 125)⟩])
  (c1_decode_fields)
def c3_decode_fields : C :=
 .seq (.ops [⟨some 97, none, .mov (.t 0)⟩,
  ⟨some 98, none, .bin .eql (.t 97) (.c (.int .i64 40))⟩,
  ⟨some 99, none, .mov (.t 98)⟩,
  ⟨some 100, some (99, false), .mov (.t 0)⟩,
  ⟨some 101, some (99, false), .bin .eql (.t 100) (.c (.int .i64 41))⟩,
  ⟨some 102, none, .pick (.t 99) (.c (.bool true)) (.t 101)⟩,
  ⟨some 96, none, .mov (.t 102)⟩])
  (.cond (.t 96)
  (.seq (.ops [⟨some 2, none, .mov (.c (.int .i64 32))⟩])
  (.ret))
  (c2_decode_fields))
def c4_decode_fields : C :=
 .seq (.ops [⟨some 82, none, .mov (.t 0)⟩,
  ⟨some 83, none, .bin .geq (.t 82) (.c (.int .i64 36))⟩,
  ⟨some 84, none, .mov (.t 83)⟩,
  ⟨some 85, some (84, true), .mov (.t 0)⟩,
  ⟨some 86, some (84, true), .bin .leq (.t 85) (.c (.int .i64 39))⟩,
  ⟨some 87, none, .pick (.t 84) (.t 86) (.c (.bool false))⟩,
  ⟨some 88, none, .mov (.t 87)⟩,
  ⟨some 89, some (88, false), .mov (.t 0)⟩,
  ⟨some 90, some (88, false), .bin .eql (.t 89) (.c (.int .i64 44))⟩,
  ⟨some 91, none, .pick (.t 88) (.c (.bool true)) (.t 90)⟩,
  ⟨some 92, none, .mov (.t 91)⟩,
  ⟨some 93, some (92, false), .mov (.t 0)⟩,
  ⟨some 94, some (92, false), .bin .eql (.t 93) (.c (.int .i64 45))⟩,
  ⟨some 95, none, .pick (.t 92) (.c (.bool true)) (.t 94)⟩,
  ⟨some 81, none, .mov (.t 95)⟩])
  (.cond (.t 81)
  (.seq (.ops [⟨some 2, none, .mov (.c (.int .i64 17))⟩])
  (.ret))
  (c3_decode_fields))
def c5_decode_fields : C :=
 .seq (.ops [⟨some 67, none, .mov (.t 0)⟩,
  ⟨some 68, none, .bin .geq (.t 67) (.c (.int .i64 18))⟩,
  ⟨some 69, none, .mov (.t 68)⟩,
  ⟨some 70, some (69, true), .mov (.t 0)⟩,
  ⟨some 71, some (69, true), .bin .leq (.t 70) (.c (.int .i64 21))⟩,
  ⟨some 72, none, .pick (.t 69) (.t 71) (.c (.bool false))⟩,
  ⟨some 73, none, .mov (.t 72)⟩,
  ⟨some 74, some (73, false), .mov (.t 0)⟩,
  ⟨some 75, some (73, false), .bin .geq (.t 74) (.c (.int .i64 32))⟩,
  ⟨some 76, some (73, false), .mov (.t 75)⟩,
  ⟨some 77, some (76, true), .mov (.t 0)⟩,
  ⟨some 78, some (76, true), .bin .leq (.t 77) (.c (.int .i64 35))⟩,
  ⟨some 79, some (73, false), .pick (.t 76) (.t 78) (.c (.bool false))⟩,
  ⟨some 80, none, .pick (.t 73) (.c (.bool true)) (.t 79)⟩,
  ⟨some 66, none, .mov (.t 80)⟩])
  (.cond (.t 66)
  (.seq (.ops [⟨some 2, none, .mov (.c (.int .i64 3))⟩])
  (.ret))
  (c4_decode_fields))
def c6_decode_fields : C :=
 .seq (.ops [⟨some 60, none, .mov (.t 0)⟩,
  ⟨some 61, none, .bin .eql (.t 60) (.c (.int .i64 14))⟩,
  ⟨some 62, none, .mov (.t 61)⟩,
  ⟨some 63, some (62, false), .mov (.t 0)⟩,
  ⟨some 64, some (62, false), .bin .eql (.t 63) (.c (.int .i64 16))⟩,
  ⟨some 65, none, .pick (.t 62) (.c (.bool true)) (.t 64)⟩,
  ⟨some 59, none, .mov (.t 65)⟩])
  (.cond (.t 59)
  (.seq (.ops [⟨some 2, none, .mov (.c (.int .i64 4))⟩])
  (.ret))
  (c5_decode_fields))
def c7_decode_fields : C :=
 .seq (.ops [⟨some 49, none, .mov (.t 0)⟩,
  ⟨some 50, none, .bin .eql (.t 49) (.c (.int .i64 8))⟩,
  ⟨some 51, none, .mov (.t 50)⟩,
  ⟨some 52, some (51, false), .mov (.t 0)⟩,
  ⟨some 53, some (51, false), .bin .eql (.t 52) (.c (.int .i64 64))⟩,
  ⟨some 54, none, .pick (.t 51) (.c (.bool true)) (.t 53)⟩,
  ⟨some 55, none, .mov (.t 54)⟩,
  ⟨some 56, some (55, false), .mov (.t 0)⟩,
  ⟨some 57, some (55, false), .bin .eql (.t 56) (.c (.int .i64 65))⟩,
  ⟨some 58, none, .pick (.t 55) (.c (.bool true)) (.t 57)⟩,
  ⟨some 48, none, .mov (.t 58)⟩])
  (.cond (.t 48)
  (.seq (.ops [⟨some 2, none, .mov (.c (.int .i64 5))⟩])
  (.ret))
  (c6_decode_fields))
def c8_decode_fields : C :=
 .seq (.ops [⟨some 38, none, .mov (.t 0)⟩,
  ⟨some 39, none, .bin .eql (.t 38) (.c (.int .i64 7))⟩,
  ⟨some 40, none, .mov (.t 39)⟩,
  ⟨some 41, some (40, false), .mov (.t 0)⟩,
  ⟨some 42, some (40, false), .bin .eql (.t 41) (.c (.int .i64 15))⟩,
  ⟨some 43, none, .pick (.t 40) (.c (.bool true)) (.t 42)⟩,
  ⟨some 44, none, .mov (.t 43)⟩,
  ⟨some 45, some (44, false), .mov (.t 0)⟩,
  ⟨some 46, some (44, false), .bin .eql (.t 45) (.c (.int .i64 17))⟩,
  ⟨some 47, none, .pick (.t 44) (.c (.bool true)) (.t 46)⟩,
  ⟨some 37, none, .mov (.t 47)⟩])
  (.cond (.t 37)
  (.seq (.ops [⟨some 2, none, .mov (.c (.int .i64 1))⟩])
  (.ret))
  (c7_decode_fields))
def c9_decode_fields : C :=
 .seq (.ops [⟨some 11, none, .mov (.t 0)⟩,
  ⟨some 12, none, .bin .geq (.t 11) (.c (.int .i64 4))⟩,
  ⟨some 13, none, .mov (.t 12)⟩,
  ⟨some 14, some (13, true), .mov (.t 0)⟩,
  ⟨some 15, some (13, true), .bin .leq (.t 14) (.c (.int .i64 6))⟩,
  ⟨some 16, none, .pick (.t 13) (.t 15) (.c (.bool false))⟩,
  ⟨some 17, none, .mov (.t 16)⟩,
  ⟨some 18, some (17, false), .mov (.t 0)⟩,
  ⟨some 19, some (17, false), .bin .eql (.t 18) (.c (.int .i64 9))⟩,
  ⟨some 20, none, .pick (.t 17) (.c (.bool true)) (.t 19)⟩,
  ⟨some 21, none, .mov (.t 20)⟩,
  ⟨some 22, some (21, false), .mov (.t 0)⟩,
  ⟨some 23, some (21, false), .bin .eql (.t 22) (.c (.int .i64 10))⟩,
  ⟨some 24, none, .pick (.t 21) (.c (.bool true)) (.t 23)⟩,
  ⟨some 25, none, .mov (.t 24)⟩,
  ⟨some 26, some (25, false), .mov (.t 0)⟩,
  ⟨some 27, some (25, false), .bin .geq (.t 26) (.c (.int .i64 22))⟩,
  ⟨some 28, some (25, false), .mov (.t 27)⟩,
  ⟨some 29, some (28, true), .mov (.t 0)⟩,
  ⟨some 30, some (28, true), .bin .leq (.t 29) (.c (.int .i64 31))⟩,
  ⟨some 31, some (25, false), .pick (.t 28) (.t 30) (.c (.bool false))⟩,
  ⟨some 32, none, .pick (.t 25) (.c (.bool true)) (.t 31)⟩,
  ⟨some 33, none, .mov (.t 32)⟩,
  ⟨some 34, some (33, false), .mov (.t 0)⟩,
  ⟨some 35, some (33, false), .bin .eql (.t 34) (.c (.int .i64 63))⟩,
  ⟨some 36, none, .pick (.t 33) (.c (.bool true)) (.t 35)⟩,
  ⟨some 10, none, .mov (.t 36)⟩])
  (.cond (.t 10)
  (.seq (.ops [⟨some 2, none, .mov (.c (.int .i64 7))⟩])
  (.ret))
  (c8_decode_fields))
def c10_decode_fields : C :=
 .seq (.block 0
  (.seq (.ops [⟨some 4, none, .mov (.t 0)⟩,
  ⟨some 5, none, .bin .geq (.t 4) (.c (.int .i64 1))⟩,
  ⟨some 6, none, .mov (.t 5)⟩,
  ⟨some 7, some (6, true), .mov (.t 0)⟩,
  ⟨some 8, some (6, true), .bin .leq (.t 7) (.c (.int .i64 3))⟩,
  ⟨some 9, none, .pick (.t 6) (.t 8) (.c (.bool false))⟩,
  ⟨some 3, none, .mov (.t 9)⟩])
  (.cond (.t 3)
  (.seq (.ops [⟨some 2, none, .mov (.c (.int .i64 14))⟩])
  (.ret))
  (c9_decode_fields))))
  (.seq (.ops [⟨some 2, none, .mov (.c (.int .i64 0))⟩])
  (.ret))
def c_decode_fields : C :=
 .seq (.ops [⟨some 2, none, .mov (.c (.int .i64 0))⟩])
  (c10_decode_fields)
def f_decode_fields : F := ⟨c_decode_fields, [.t 2], some []⟩
theorem h_decode_fields : compF Tryz.prog (compAny Tryz.prog) n_decode_fields = some (f_decode_fields.body, f_decode_fields.res) := by kernel_rfl
def c0_decode_special : C :=
 .seq (.ops [⟨some 86, none, .mov (.t 3)⟩,
  ⟨some 87, none, .bin .geq (.t 86) (.c (.int .i64 48))⟩,
  ⟨some 88, none, .mov (.t 87)⟩,
  ⟨some 89, some (88, true), .mov (.t 3)⟩,
  ⟨some 90, some (88, true), .bin .leq (.t 89) (.c (.int .i64 54))⟩,
  ⟨some 91, none, .pick (.t 88) (.t 90) (.c (.bool false))⟩,
  ⟨some 92, none, .mov (.t 91)⟩,
  ⟨some 93, some (92, true), .mov (.t 3)⟩,
  ⟨some 94, some (92, true), .bin .rem (.t 93) (.c (.int .i64 2))⟩,
  ⟨some 95, some (92, true), .bin .eql (.t 94) (.c (.int .i64 0))⟩,
  ⟨some 96, none, .pick (.t 92) (.t 95) (.c (.bool false))⟩,
  ⟨some 85, none, .mov (.t 96)⟩])
  (.cond (.t 85)
  (.seq (.ops [⟨some 97, none, .mov (.t 3)⟩,
  ⟨some 98, none, .bin .sub (.t 97) (.c (.int .i64 48))⟩,
  ⟨some 99, none, .bin .quo (.t 98) (.c (.int .i64 2))⟩,
  ⟨some 100, none, .bin .add (.c (.int .i64 32)) (.t 99)⟩,
  ⟨some 2, none, .mov (.t 100)⟩])
  (.ret))
  (.skip))
def c1_decode_special : C :=
 .seq (.ops [⟨some 76, none, .mov (.t 3)⟩,
  ⟨some 77, none, .bin .eql (.t 76) (.c (.int .i64 42))⟩,
  ⟨some 78, none, .mov (.t 77)⟩,
  ⟨some 79, some (78, false), .mov (.t 3)⟩,
  ⟨some 80, some (78, false), .bin .eql (.t 79) (.c (.int .i64 43))⟩,
  ⟨some 81, none, .pick (.t 78) (.c (.bool true)) (.t 80)⟩,
  ⟨some 75, none, .mov (.t 81)⟩])
  (.cond (.t 75)
  (.seq (.ops [⟨some 82, none, .mov (.t 3)⟩,
  ⟨some 83, none, .bin .add (.c (.int .i64 30)) (.t 82)⟩,
  ⟨some 84, none, .bin .sub (.t 83) (.c (.int .i64 42))⟩,
  ⟨some 2, none, .mov (.t 84)⟩])
  (.ret))
  (c0_decode_special))
def c2_decode_special : C :=
 .seq (.ops [⟨some 66, none, .mov (.t 3)⟩,
  ⟨some 67, none, .bin .geq (.t 66) (.c (.int .i64 32))⟩,
  ⟨some 68, none, .mov (.t 67)⟩,
  ⟨some 69, some (68, true), .mov (.t 3)⟩,
  ⟨some 70, some (68, true), .bin .leq (.t 69) (.c (.int .i64 39))⟩,
  ⟨some 71, none, .pick (.t 68) (.t 70) (.c (.bool false))⟩,
  ⟨some 65, none, .mov (.t 71)⟩])
  (.cond (.t 65)
  (.seq (.ops [⟨some 72, none, .mov (.t 3)⟩,
  ⟨some 73, none, .bin .add (.c (.int .i64 22)) (.t 72)⟩,
  ⟨some 74, none, .bin .sub (.t 73) (.c (.int .i64 32))⟩,
  ⟨some 2, none, .mov (.t 74)⟩])
  (.ret))
  (c1_decode_special))
def c3_decode_special : C :=
 .seq (.ops [⟨some 56, none, .mov (.t 3)⟩,
  ⟨some 57, none, .bin .geq (.t 56) (.c (.int .i64 24))⟩,
  ⟨some 58, none, .mov (.t 57)⟩,
  ⟨some 59, some (58, true), .mov (.t 3)⟩,
  ⟨some 60, some (58, true), .bin .leq (.t 59) (.c (.int .i64 27))⟩,
  ⟨some 61, none, .pick (.t 58) (.t 60) (.c (.bool false))⟩,
  ⟨some 55, none, .mov (.t 61)⟩])
  (.cond (.t 55)
  (.seq (.ops [⟨some 62, none, .mov (.t 3)⟩,
  ⟨some 63, none, .bin .add (.c (.int .i64 18)) (.t 62)⟩,
  ⟨some 64, none, .bin .sub (.t 63) (.c (.int .i64 24))⟩,
  ⟨some 2, none, .mov (.t 64)⟩])
  (.ret))
  (c2_decode_special))
def c4_decode_special : C :=
 .seq (.ops [⟨some 46, none, .mov (.t 3)⟩,
  ⟨some 47, none, .bin .geq (.t 46) (.c (.int .i64 16))⟩,
  ⟨some 48, none, .mov (.t 47)⟩,
  ⟨some 49, some (48, true), .mov (.t 3)⟩,
  ⟨some 50, some (48, true), .bin .leq (.t 49) (.c (.int .i64 19))⟩,
  ⟨some 51, none, .pick (.t 48) (.t 50) (.c (.bool false))⟩,
  ⟨some 45, none, .mov (.t 51)⟩])
  (.cond (.t 45)
  (.seq (.ops [⟨some 52, none, .mov (.t 3)⟩,
  ⟨some 53, none, .bin .add (.c (.int .i64 14)) (.t 52)⟩,
  ⟨some 54, none, .bin .sub (.t 53) (.c (.int .i64 16))⟩,
  ⟨some 2, none, .mov (.t 54)⟩])
  (.ret))
  (c3_decode_special))
def c5_decode_special : C :=
 .cond (.t 32)
  (.seq (.ops [⟨some 39, none, .mov (.t 3)⟩,
  ⟨some 40, none, .bin .add (.c (.int .i64 7)) (.t 39)⟩,
  ⟨some 41, none, .bin .sub (.t 40) (.c (.int .i64 8))⟩,
  ⟨some 2, none, .mov (.t 41)⟩])
  (.ret))
  (.seq (.ops [⟨some 43, none, .mov (.t 3)⟩,
  ⟨some 44, none, .bin .eql (.t 43) (.c (.int .i64 15))⟩,
  ⟨some 42, none, .mov (.t 44)⟩])
  (.cond (.t 42)
  (.seq (.ops [⟨some 2, none, .mov (.c (.int .i64 13))⟩])
  (.ret))
  (c4_decode_special)))
def c6_decode_special : C :=
 .seq (.ops [⟨some 33, none, .mov (.t 3)⟩,
  ⟨some 34, none, .bin .geq (.t 33) (.c (.int .i64 8))⟩,
  ⟨some 35, none, .mov (.t 34)⟩,
  ⟨some 36, some (35, true), .mov (.t 3)⟩,
  ⟨some 37, some (35, true), .bin .leq (.t 36) (.c (.int .i64 13))⟩,
  ⟨some 38, none, .pick (.t 35) (.t 37) (.c (.bool false))⟩,
  ⟨some 32, none, .mov (.t 38)⟩])
  (c5_decode_special)
def c7_decode_special : C :=
 .seq (.ops [⟨some 23, none, .mov (.t 3)⟩,
  ⟨some 24, none, .bin .eql (.t 23) (.c (.int .i64 6))⟩,
  ⟨some 25, none, .mov (.t 24)⟩,
  ⟨some 26, some (25, false), .mov (.t 3)⟩,
  ⟨some 27, some (25, false), .bin .eql (.t 26) (.c (.int .i64 7))⟩,
  ⟨some 28, none, .pick (.t 25) (.c (.bool true)) (.t 27)⟩,
  ⟨some 22, none, .mov (.t 28)⟩])
  (.cond (.t 22)
  (.seq (.ops [⟨some 29, none, .mov (.t 3)⟩,
  ⟨some 30, none, .bin .add (.c (.int .i64 5)) (.t 29)⟩,
  ⟨some 31, none, .bin .sub (.t 30) (.c (.int .i64 6))⟩,
  ⟨some 2, none, .mov (.t 31)⟩])
  (.ret))
  (c6_decode_special))
def c8_decode_special : C :=
 .cond (.t 9)
  (.seq (.ops [⟨some 16, none, .mov (.t 3)⟩,
  ⟨some 17, none, .bin .add (.c (.int .i64 2)) (.t 16)⟩,
  ⟨some 18, none, .bin .sub (.t 17) (.c (.int .i64 2))⟩,
  ⟨some 2, none, .mov (.t 18)⟩])
  (.ret))
  (.seq (.ops [⟨some 20, none, .mov (.t 3)⟩,
  ⟨some 21, none, .bin .eql (.t 20) (.c (.int .i64 4))⟩,
  ⟨some 19, none, .mov (.t 21)⟩])
  (.cond (.t 19)
  (.seq (.ops [⟨some 2, none, .mov (.c (.int .i64 4))⟩])
  (.ret))
  (c7_decode_special)))
def c9_decode_special : C :=
 .seq (.ops [⟨some 10, none, .mov (.t 3)⟩,
  ⟨some 11, none, .bin .eql (.t 10) (.c (.int .i64 2))⟩,
  ⟨some 12, none, .mov (.t 11)⟩,
  ⟨some 13, some (12, false), .mov (.t 3)⟩,
  ⟨some 14, some (12, false), .bin .eql (.t 13) (.c (.int .i64 3))⟩,
  ⟨some 15, none, .pick (.t 12) (.c (.bool true)) (.t 14)⟩,
  ⟨some 9, none, .mov (.t 15)⟩])
  (c8_decode_special)
def c10_decode_special : C :=
 .seq (.block 0
  (.seq (.ops [⟨some 7, none, .mov (.t 3)⟩,
  ⟨some 8, none, .bin .eql (.t 7) (.c (.int .i64 0))⟩,
  ⟨some 6, none, .mov (.t 8)⟩])
  (.cond (.t 6)
  (.seq (.ops [⟨some 2, none, .mov (.c (.int .i64 1))⟩])
  (.ret))
  (c9_decode_special))))
  (.seq (.ops [⟨some 2, none, .mov (.c (.int .i64 0))⟩])
  (.ret))
def c_decode_special : C :=
 .seq (.ops [⟨some 2, none, .mov (.c (.int .i64 0))⟩])
  (.seq (.ops [⟨some 4, none, .mov (.t 0)⟩,
  ⟨some 5, none, .conv .i64 (.t 4)⟩,
  ⟨some 3, none, .mov (.t 5)⟩])
  (c10_decode_special))
def f_decode_special : F := ⟨c_decode_special, [.t 2], some []⟩
theorem h_decode_special : compF Tryz.prog (compAny Tryz.prog) n_decode_special = some (f_decode_special.body, f_decode_special.res) := by kernel_rfl
def c0_decode_regimm : C :=
 .seq (.seq (.ops [⟨some 11, none, .bin .eql (.t 3) (.c (.int .u32 16))⟩,
  ⟨some 10, none, .mov (.t 11)⟩])
  (.cond (.t 10)
  (.skip)
  (.ops [⟨some 12, none, .bin .eql (.t 3) (.c (.int .u32 17))⟩,
  ⟨some 10, none, .mov (.t 12)⟩])))
  (.cond (.t 10)
  (.seq (.ops [⟨some 13, none, .mov (.t 0)⟩,
  ⟨some 14, none, .conv .i64 (.t 13)⟩,
  ⟨some 15, none, .bin .add (.c (.int .i64 38)) (.t 14)⟩,
  ⟨some 16, none, .bin .sub (.t 15) (.c (.int .i64 16))⟩,
  ⟨some 2, none, .mov (.t 16)⟩])
  (.ret))
  (.skip))
def c1_decode_regimm : C :=
 .block 0
  (.seq (.seq (.ops [⟨some 5, none, .bin .eql (.t 3) (.c (.int .u32 0))⟩,
  ⟨some 4, none, .mov (.t 5)⟩])
  (.cond (.t 4)
  (.skip)
  (.ops [⟨some 6, none, .bin .eql (.t 3) (.c (.int .u32 1))⟩,
  ⟨some 4, none, .mov (.t 6)⟩])))
  (.cond (.t 4)
  (.seq (.ops [⟨some 7, none, .mov (.t 0)⟩,
  ⟨some 8, none, .conv .i64 (.t 7)⟩,
  ⟨some 9, none, .bin .add (.c (.int .i64 36)) (.t 8)⟩,
  ⟨some 2, none, .mov (.t 9)⟩])
  (.ret))
  (c0_decode_regimm)))
def c_decode_regimm : C :=
 .seq (.ops [⟨some 2, none, .mov (.c (.int .i64 0))⟩])
  (.seq (.seq (.ops [⟨some 3, none, .mov (.t 0)⟩])
  (c1_decode_regimm))
  (.seq (.ops [⟨some 2, none, .mov (.c (.int .i64 0))⟩])
  (.ret)))
def f_decode_regimm : F := ⟨c_decode_regimm, [.t 2], some []⟩
theorem h_decode_regimm : compF Tryz.prog (compAny Tryz.prog) n_decode_regimm = some (f_decode_regimm.body, f_decode_regimm.res) := by kernel_rfl
def c0_decode_cop0 : C :=
 .seq (.ops [⟨some 11, none, .bin .eql (.t 5) (.c (.int .u32 16))⟩,
  ⟨some 10, none, .mov (.t 11)⟩])
  (.cond (.t 10)
  (.seq (.ops [⟨some 12, none, .mov (.t 0)⟩,
  ⟨some 13, none, .bin .and (.t 12) (.c (.int .u32 63))⟩,
  ⟨some 14, none, .call n_decode_table [(.t 13)]⟩,
  ⟨some 2, none, .mov (.t 14)⟩])
  (.ret))
  (.skip))
def c1_decode_cop0 : C :=
 .block 0
  (.seq (.ops [⟨some 7, none, .bin .eql (.t 5) (.c (.int .u32 0))⟩,
  ⟨some 6, none, .mov (.t 7)⟩])
  (.cond (.t 6)
  (.seq (.ops [⟨some 2, none, .mov (.c (.int .i64 54))⟩])
  (.ret))
  (.seq (.ops [⟨some 9, none, .bin .eql (.t 5) (.c (.int .u32 4))⟩,
  ⟨some 8, none, .mov (.t 9)⟩])
  (.cond (.t 8)
  (.seq (.ops [⟨some 2, none, .mov (.c (.int .i64 55))⟩])
  (.ret))
  (c0_decode_cop0)))))
def c_decode_cop0 : C :=
 .seq (.ops [⟨some 2, none, .mov (.c (.int .i64 0))⟩])
  (.seq (.seq (.ops [⟨some 3, none, .mov (.t 0)⟩,
  ⟨some 4, none, .bin .shr (.t 3) (.c (.int .u64 21))⟩,
  ⟨some 5, none, .bin .and (.t 4) (.c (.int .u32 31))⟩])
  (c1_decode_cop0))
  (.seq (.ops [⟨some 2, none, .mov (.c (.int .i64 0))⟩])
  (.ret)))
def f_decode_cop0 : F := ⟨c_decode_cop0, [.t 2], some []⟩
theorem h_decode_cop0 : compF Tryz.prog (compAny Tryz.prog) n_decode_cop0 = some (f_decode_cop0.body, f_decode_cop0.res) := by kernel_rfl
def c0_decode_special2 : C :=
 .seq (.seq (.ops [⟨some 7, none, .bin .eql (.t 3) (.c (.int .u32 32))⟩,
  ⟨some 6, none, .mov (.t 7)⟩])
  (.cond (.t 6)
  (.skip)
  (.ops [⟨some 8, none, .bin .eql (.t 3) (.c (.int .u32 33))⟩,
  ⟨some 6, none, .mov (.t 8)⟩])))
  (.cond (.t 6)
  (.seq (.ops [⟨some 9, none, .mov (.t 0)⟩,
  ⟨some 10, none, .conv .i64 (.t 9)⟩,
  ⟨some 11, none, .bin .add (.c (.int .i64 64)) (.t 10)⟩,
  ⟨some 12, none, .bin .sub (.t 11) (.c (.int .i64 32))⟩,
  ⟨some 2, none, .mov (.t 12)⟩])
  (.ret))
  (.skip))
def c1_decode_special2 : C :=
 .seq (.seq (.ops [⟨some 3, none, .mov (.t 0)⟩])
  (.block 0
  (.seq (.ops [⟨some 5, none, .bin .eql (.t 3) (.c (.int .u32 2))⟩,
  ⟨some 4, none, .mov (.t 5)⟩])
  (.cond (.t 4)
  (.seq (.ops [⟨some 2, none, .mov (.c (.int .i64 63))⟩])
  (.ret))
  (c0_decode_special2)))))
  (.seq (.ops [⟨some 2, none, .mov (.c (.int .i64 0))⟩])
  (.ret))
def c_decode_special2 : C :=
 .seq (.ops [⟨some 2, none, .mov (.c (.int .i64 0))⟩])
  (c1_decode_special2)
def f_decode_special2 : F := ⟨c_decode_special2, [.t 2], some []⟩
theorem h_decode_special2 : compF Tryz.prog (compAny Tryz.prog) n_decode_special2 = some (f_decode_special2.body, f_decode_special2.res) := by kernel_rfl
def c0_decode_major : C :=
 .cond (.t 68)
  (.seq (.ops [⟨some 2, none, .mov (.c (.int .i64 77))⟩])
  (.ret))
  (.seq (.ops [⟨some 72, none, .mov (.t 3)⟩,
  ⟨some 73, none, .bin .eql (.t 72) (.c (.int .i64 56))⟩,
  ⟨some 71, none, .mov (.t 73)⟩])
  (.cond (.t 71)
  (.seq (.ops [⟨some 2, none, .mov (.c (.int .i64 75))⟩])
  (.ret))
  (.skip)))
def c1_decode_major : C :=
 .seq (.ops [⟨some 66, none, .mov (.t 3)⟩,
  ⟨some 67, none, .bin .eql (.t 66) (.c (.int .i64 48))⟩,
  ⟨some 65, none, .mov (.t 67)⟩])
  (.cond (.t 65)
  (.seq (.ops [⟨some 2, none, .mov (.c (.int .i64 74))⟩])
  (.ret))
  (.seq (.ops [⟨some 69, none, .mov (.t 3)⟩,
  ⟨some 70, none, .bin .eql (.t 69) (.c (.int .i64 51))⟩,
  ⟨some 68, none, .mov (.t 70)⟩])
  (c0_decode_major)))
def c2_decode_major : C :=
 .cond (.t 59)
  (.seq (.ops [⟨some 2, none, .mov (.c (.int .i64 73))⟩])
  (.ret))
  (.seq (.ops [⟨some 63, none, .mov (.t 3)⟩,
  ⟨some 64, none, .bin .eql (.t 63) (.c (.int .i64 47))⟩,
  ⟨some 62, none, .mov (.t 64)⟩])
  (.cond (.t 62)
  (.seq (.ops [⟨some 2, none, .mov (.c (.int .i64 76))⟩])
  (.ret))
  (c1_decode_major)))
def c3_decode_major : C :=
 .cond (.t 49)
  (.seq (.ops [⟨some 56, none, .mov (.t 3)⟩,
  ⟨some 57, none, .bin .add (.c (.int .i64 71)) (.t 56)⟩,
  ⟨some 58, none, .bin .sub (.t 57) (.c (.int .i64 40))⟩,
  ⟨some 2, none, .mov (.t 58)⟩])
  (.ret))
  (.seq (.ops [⟨some 60, none, .mov (.t 3)⟩,
  ⟨some 61, none, .bin .eql (.t 60) (.c (.int .i64 43))⟩,
  ⟨some 59, none, .mov (.t 61)⟩])
  (c2_decode_major))
def c4_decode_major : C :=
 .seq (.ops [⟨some 50, none, .mov (.t 3)⟩,
  ⟨some 51, none, .bin .eql (.t 50) (.c (.int .i64 40))⟩,
  ⟨some 52, none, .mov (.t 51)⟩,
  ⟨some 53, some (52, false), .mov (.t 3)⟩,
  ⟨some 54, some (52, false), .bin .eql (.t 53) (.c (.int .i64 41))⟩,
  ⟨some 55, none, .pick (.t 52) (.c (.bool true)) (.t 54)⟩,
  ⟨some 49, none, .mov (.t 55)⟩])
  (c3_decode_major)
def c5_decode_major : C :=
 .seq (.ops [⟨some 40, none, .mov (.t 3)⟩,
  ⟨some 41, none, .bin .geq (.t 40) (.c (.int .i64 35))⟩,
  ⟨some 42, none, .mov (.t 41)⟩,
  ⟨some 43, some (42, true), .mov (.t 3)⟩,
  ⟨some 44, some (42, true), .bin .leq (.t 43) (.c (.int .i64 37))⟩,
  ⟨some 45, none, .pick (.t 42) (.t 44) (.c (.bool false))⟩,
  ⟨some 39, none, .mov (.t 45)⟩])
  (.cond (.t 39)
  (.seq (.ops [⟨some 46, none, .mov (.t 3)⟩,
  ⟨some 47, none, .bin .add (.c (.int .i64 68)) (.t 46)⟩,
  ⟨some 48, none, .bin .sub (.t 47) (.c (.int .i64 35))⟩,
  ⟨some 2, none, .mov (.t 48)⟩])
  (.ret))
  (c4_decode_major))
def c6_decode_major : C :=
 .seq (.ops [⟨some 30, none, .mov (.t 3)⟩,
  ⟨some 31, none, .bin .eql (.t 30) (.c (.int .i64 32))⟩,
  ⟨some 32, none, .mov (.t 31)⟩,
  ⟨some 33, some (32, false), .mov (.t 3)⟩,
  ⟨some 34, some (32, false), .bin .eql (.t 33) (.c (.int .i64 33))⟩,
  ⟨some 35, none, .pick (.t 32) (.c (.bool true)) (.t 34)⟩,
  ⟨some 29, none, .mov (.t 35)⟩])
  (.cond (.t 29)
  (.seq (.ops [⟨some 36, none, .mov (.t 3)⟩,
  ⟨some 37, none, .bin .add (.c (.int .i64 66)) (.t 36)⟩,
  ⟨some 38, none, .bin .sub (.t 37) (.c (.int .i64 32))⟩,
  ⟨some 2, none, .mov (.t 38)⟩])
  (.ret))
  (c5_decode_major))
def c7_decode_major : C :=
 .cond (.t 16)
  (.seq (.ops [⟨some 23, none, .mov (.t 3)⟩,
  ⟨some 24, none, .bin .add (.c (.int .i64 46)) (.t 23)⟩,
  ⟨some 25, none, .bin .sub (.t 24) (.c (.int .i64 8))⟩,
  ⟨some 2, none, .mov (.t 25)⟩])
  (.ret))
  (.seq (.ops [⟨some 27, none, .mov (.t 3)⟩,
  ⟨some 28, none, .bin .eql (.t 27) (.c (.int .i64 17))⟩,
  ⟨some 26, none, .mov (.t 28)⟩])
  (.cond (.t 26)
  (.seq (.ops [⟨some 2, none, .mov (.c (.int .i64 62))⟩])
  (.ret))
  (c6_decode_major)))
def c8_decode_major : C :=
 .seq (.ops [⟨some 17, none, .mov (.t 3)⟩,
  ⟨some 18, none, .bin .geq (.t 17) (.c (.int .i64 8))⟩,
  ⟨some 19, none, .mov (.t 18)⟩,
  ⟨some 20, some (19, true), .mov (.t 3)⟩,
  ⟨some 21, some (19, true), .bin .leq (.t 20) (.c (.int .i64 15))⟩,
  ⟨some 22, none, .pick (.t 19) (.t 21) (.c (.bool false))⟩,
  ⟨some 16, none, .mov (.t 22)⟩])
  (c7_decode_major)
def c9_decode_major : C :=
 .seq (.block 0
  (.seq (.ops [⟨some 7, none, .mov (.t 3)⟩,
  ⟨some 8, none, .bin .geq (.t 7) (.c (.int .i64 2))⟩,
  ⟨some 9, none, .mov (.t 8)⟩,
  ⟨some 10, some (9, true), .mov (.t 3)⟩,
  ⟨some 11, some (9, true), .bin .leq (.t 10) (.c (.int .i64 7))⟩,
  ⟨some 12, none, .pick (.t 9) (.t 11) (.c (.bool false))⟩,
  ⟨some 6, none, .mov (.t 12)⟩])
  (.cond (.t 6)
  (.seq (.ops [⟨some 13, none, .mov (.t 3)⟩,
  ⟨some 14, none, .bin .add (.c (.int .i64 40)) (.t 13)⟩,
  ⟨some 15, none, .bin .sub (.t 14) (.c (.int .i64 2))⟩,
  ⟨some 2, none, .mov (.t 15)⟩])
  (.ret))
  (c8_decode_major))))
  (.seq (.ops [⟨some 2, none, .mov (.c (.int .i64 0))⟩])
  (.ret))
def c_decode_major : C :=
 .seq (.ops [⟨some 2, none, .mov (.c (.int .i64 0))⟩])
  (.seq (.ops [⟨some 4, none, .mov (.t 0)⟩,
  ⟨some 5, none, .conv .i64 (.t 4)⟩,
  ⟨some 3, none, .mov (.t 5)⟩])
  (c9_decode_major))
def f_decode_major : F := ⟨c_decode_major, [.t 2], some []⟩
theorem h_decode_major : compF Tryz.prog (compAny Tryz.prog) n_decode_major = some (f_decode_major.body, f_decode_major.res) := by kernel_rfl
def c0_opt_Dead : C :=
 .seq (.block 1
  (.seq (.ops [⟨some 18, none, .mov (.t 16)⟩,
  ⟨some 4, none, .mov (.t 18)⟩])
  (.ops [⟨some 19, none, .mov (.t 4)⟩,
  ⟨some 20, none, .iaa 40 1 (.t 3) (.t 19)⟩,
  ⟨none, none, .st (.t 20) (.c (.bool true))⟩])))
  (.ops [⟨some 21, none, .bin .add (.t 16) (.c (.int .i64 1))⟩,
  ⟨some 16, none, .mov (.t 21)⟩])
def c1_opt_Dead : C :=
 .seq (.ops [⟨some 17, none, .bin .lss (.t 16) (.c (.int .i64 34))⟩])
  (.seq (.cond (.t 17)
  (.skip)
  (.exit 0))
  (c0_opt_Dead))
def c2_opt_Dead : C :=
 .ops [⟨some 45, none, .mov (.t 10)⟩,
  ⟨some 46, none, .mov (.t 10)⟩,
  ⟨some 47, none, .iaa 40 1 (.t 3) (.t 46)⟩,
  ⟨some 48, none, .ld (.t 47)⟩,
  ⟨some 49, none, .mov (.t 48)⟩,
  ⟨some 50, some (49, true), .ldn 5 (.t 7)⟩,
  ⟨some 51, some (49, true), .call n_opt_sure [(.t 50)]⟩,
  ⟨some 52, some (49, true), .un .not (.t 51)⟩,
  ⟨some 53, none, .pick (.t 49) (.t 52) (.c (.bool false))⟩,
  ⟨some 54, none, .iaa 40 1 (.t 3) (.t 45)⟩,
  ⟨none, none, .st (.t 54) (.t 53)⟩]
def c3_opt_Dead : C :=
 .seq (.ops [⟨some 42, none, .bin .lss (.t 41) (.t 40)⟩])
  (.seq (.cond (.t 42)
  (.skip)
  (.exit 4))
  (.seq (.block 5
  (.seq (.ops [⟨some 43, none, .ia 1 (.t 39) (.t 41)⟩,
  ⟨some 44, none, .ld (.t 43)⟩,
  ⟨some 10, none, .mov (.t 44)⟩])
  (c2_opt_Dead)))
  (.ops [⟨some 55, none, .bin .add (.t 41) (.c (.int .i64 1))⟩,
  ⟨some 41, none, .mov (.t 55)⟩])))
def c4_opt_Dead : C :=
 .seq (.block 7
  (.seq (.ops [⟨some 61, none, .ia 1 (.t 57) (.t 59)⟩,
  ⟨some 62, none, .ld (.t 61)⟩,
  ⟨some 12, none, .mov (.t 62)⟩])
  (.ops [⟨some 63, none, .mov (.t 12)⟩,
  ⟨some 64, none, .iaa 40 1 (.t 3) (.t 63)⟩,
  ⟨none, none, .st (.t 64) (.c (.bool true))⟩])))
  (.ops [⟨some 65, none, .bin .add (.t 59) (.c (.int .i64 1))⟩,
  ⟨some 59, none, .mov (.t 65)⟩])
def c5_opt_Dead : C :=
 .seq (.ops [⟨some 60, none, .bin .lss (.t 59) (.t 58)⟩])
  (.seq (.cond (.t 60)
  (.skip)
  (.exit 6))
  (c4_opt_Dead))
def c6_opt_Dead : C :=
 .seq (.seq (.ops [⟨some 56, none, .ldn 5 (.t 7)⟩,
  ⟨some 57, none, .call n_ir_Reads [(.t 56)]⟩,
  ⟨some 58, none, .len 1 (.t 57)⟩,
  ⟨some 59, none, .mov (.c (.int .i64 0))⟩])
  (.block 6
  (.loop c5_opt_Dead)))
  (.ops [⟨some 66, none, .mov (.t 5)⟩,
  ⟨some 67, none, .ldn 5 (.t 7)⟩,
  ⟨some 68, none, .bsl 1 [(.int .i64 0), (.int .i64 0), (.int .i64 0), (.int .i64 0), (.int .u32 0)] [(0, 5, (.t 67))]⟩,
  ⟨some 69, none, .app 5 40 (.t 66) (.t 68)⟩,
  ⟨some 5, none, .mov (.t 69)⟩])
def c7_opt_Dead : C :=
 .seq (.seq (.ops [⟨some 35, none, .mov (.t 8)⟩,
  ⟨some 36, none, .mkf n_opt_Dead_1 [(.t 3)]⟩,
  ⟨some 37, none, .call n_slices_ContainsFunc_int_int [(.t 35), (.t 36)]⟩,
  ⟨some 38, none, .un .not (.t 37)⟩])
  (.cond (.t 38)
  (.exit 3)
  (.skip)))
  (.seq (.seq (.ops [⟨some 39, none, .mov (.t 8)⟩,
  ⟨some 40, none, .len 1 (.t 39)⟩,
  ⟨some 41, none, .mov (.c (.int .i64 0))⟩])
  (.block 4
  (.loop c3_opt_Dead)))
  (c6_opt_Dead))
def c8_opt_Dead : C :=
 .seq (.block 3
  (.seq (.ops [⟨some 29, none, .mov (.t 0)⟩,
  ⟨some 30, none, .mov (.t 6)⟩,
  ⟨some 31, none, .ia 5 (.t 29) (.t 30)⟩,
  ⟨some 32, none, .ldn 5 (.t 31)⟩,
  ⟨some 7, none, .new [(.int .i64 0), (.int .i64 0), (.int .i64 0), (.int .i64 0), (.int .u32 0)]⟩,
  ⟨none, none, .stn 5 (.t 7) (.t 32)⟩])
  (.seq (.ops [⟨some 33, none, .ldn 5 (.t 7)⟩,
  ⟨some 34, none, .call n_ir_Writes [(.t 33)]⟩,
  ⟨some 8, none, .mov (.t 34)⟩])
  (c7_opt_Dead))))
  (.ops [⟨some 27, none, .mov (.t 6)⟩,
  ⟨some 28, none, .bin .sub (.t 27) (.c (.int .i64 1))⟩,
  ⟨some 6, none, .mov (.t 28)⟩])
def c9_opt_Dead : C :=
 .seq (.seq (.ops [⟨some 25, none, .mov (.t 6)⟩,
  ⟨some 26, none, .bin .geq (.t 25) (.c (.int .i64 0))⟩])
  (.cond (.t 26)
  (.skip)
  (.exit 2)))
  (c8_opt_Dead)
def c10_opt_Dead : C :=
 .seq (.seq (.ops [⟨some 22, none, .mov (.t 0)⟩,
  ⟨some 23, none, .len 1 (.t 22)⟩,
  ⟨some 24, none, .bin .sub (.t 23) (.c (.int .i64 1))⟩,
  ⟨some 6, none, .mov (.t 24)⟩])
  (.block 2
  (.loop c9_opt_Dead)))
  (.seq (.ops [⟨some 70, none, .mov (.t 5)⟩,
  ⟨some 71, none, .call n_slices_Reverse_ir_Op_ir_Op [(.t 70)]⟩])
  (.seq (.ops [⟨some 72, none, .mov (.t 5)⟩,
  ⟨some 2, none, .mov (.t 72)⟩])
  (.ret)))
def c11_opt_Dead : C :=
 .seq (.seq (.ops [⟨some 13, none, .mov (.t 0)⟩,
  ⟨some 14, none, .call n_opt_right [(.t 13)]⟩,
  ⟨some 15, none, .un .not (.t 14)⟩])
  (.cond (.t 15)
  (.seq (.ops [⟨some 2, none, .mov (.c (.slice none 0 0))⟩])
  (.ret))
  (.skip)))
  (.seq (.ops [⟨some 3, none, .new (List.replicate 40 (.bool false))⟩])
  (.seq (.seq (.ops [⟨some 16, none, .mov (.c (.int .i64 0))⟩])
  (.block 0
  (.loop c1_opt_Dead)))
  (.seq (.ops [⟨some 5, none, .mov (.c (.slice none 0 0))⟩])
  (c10_opt_Dead))))
def c_opt_Dead : C :=
 .seq (.ops [⟨some 2, none, .mov (.c (.slice none 0 0))⟩])
  (c11_opt_Dead)
def f_opt_Dead : F := ⟨c_opt_Dead, [.t 2], some []⟩
theorem h_opt_Dead : compF Tryz.prog (compAny Tryz.prog) n_opt_Dead = some (f_opt_Dead.body, f_opt_Dead.res) := by kernel_rfl
def c0_opt_Fold : C :=
 .seq (.ops [⟨some 31, none, .mov (.t 4)⟩,
  ⟨some 32, none, .ldn 5 (.t 7)⟩,
  ⟨some 33, none, .bsl 1 [(.int .i64 0), (.int .i64 0), (.int .i64 0), (.int .i64 0), (.int .u32 0)] [(0, 5, (.t 32))]⟩,
  ⟨some 34, none, .app 5 40 (.t 31) (.t 33)⟩,
  ⟨some 4, none, .mov (.t 34)⟩])
  (.ops [⟨some 35, none, .mov (.t 3)⟩,
  ⟨some 36, none, .ldn 5 (.t 7)⟩,
  ⟨some 37, none, .call n_opt_facts_done [(.t 35), (.t 36)]⟩])
def c1_opt_Fold : C :=
 .seq (.ops [⟨some 25, none, .mov (.t 3)⟩,
  ⟨some 26, none, .ldn 5 (.t 6)⟩,
  ⟨some 27, none, .call n_opt_facts_fold [(.t 25), (.t 26)]⟩,
  ⟨some 24, none, .mov (.t 27)⟩,
  ⟨some 28, none, .ext (.t 24) 0⟩,
  ⟨some 29, none, .ext (.t 24) 1⟩,
  ⟨some 7, none, .new [(.int .i64 0), (.int .i64 0), (.int .i64 0), (.int .i64 0), (.int .u32 0)]⟩,
  ⟨none, none, .stn 5 (.t 7) (.t 28)⟩,
  ⟨some 8, none, .mov (.t 29)⟩])
  (.seq (.ops [⟨some 30, none, .mov (.t 8)⟩])
  (.cond (.t 30)
  (c0_opt_Fold)
  (.skip)))
def c2_opt_Fold : C :=
 .seq (.block 1
  (.seq (.ops [⟨some 22, none, .ia 5 (.t 18) (.t 20)⟩,
  ⟨some 23, none, .ldn 5 (.t 22)⟩,
  ⟨some 6, none, .new [(.int .i64 0), (.int .i64 0), (.int .i64 0), (.int .i64 0), (.int .u32 0)]⟩,
  ⟨none, none, .stn 5 (.t 6) (.t 23)⟩])
  (c1_opt_Fold)))
  (.ops [⟨some 38, none, .bin .add (.t 20) (.c (.int .i64 1))⟩,
  ⟨some 20, none, .mov (.t 38)⟩])
def c3_opt_Fold : C :=
 .seq (.ops [⟨some 21, none, .bin .lss (.t 20) (.t 19)⟩])
  (.seq (.cond (.t 21)
  (.skip)
  (.exit 0))
  (c2_opt_Fold))
def c4_opt_Fold : C :=
 .seq (.ops [⟨some 4, none, .mov (.c (.slice none 0 0))⟩])
  (.seq (.seq (.ops [⟨some 18, none, .mov (.t 0)⟩,
  ⟨some 19, none, .len 1 (.t 18)⟩,
  ⟨some 20, none, .mov (.c (.int .i64 0))⟩])
  (.block 0
  (.loop c3_opt_Fold)))
  (.seq (.ops [⟨some 39, none, .mov (.t 4)⟩,
  ⟨some 2, none, .mov (.t 39)⟩])
  (.ret)))
def c5_opt_Fold : C :=
 .seq (.ops [⟨some 12, none, .build [(.bool false), (.bool false), (.bool false), (.bool false), (.bool false), (.bool false), (.bool false), (.bool false), (.bool false), (.bool false), (.bool false), (.bool false), (.bool false), (.bool false), (.bool false), (.bool false), (.bool false), (.bool false), (.bool false), (.bool false), (.bool false), (.bool false), (.bool false), (.bool false), (.bool false), (.bool false), (.bool false), (.bool false), (.bool false), (.bool false), (.bool false), (.bool false), (.bool false), (.bool false), (.bool false), (.bool false), (.bool false), (.bool false), (.bool false), (.bool false), (.int .u32 0), (.int .u32 0), (.int .u32 0), (.int .u32 0), (.int .u32 0), (.int .u32 0), (.int .u32 0), (.int .u32 0), (.int .u32 0), (.int .u32 0), (.int .u32 0), (.int .u32 0), (.int .u32 0), (.int .u32 0), (.int .u32 0), (.int .u32 0), (.int .u32 0), (.int .u32 0), (.int .u32 0), (.int .u32 0), (.int .u32 0), (.int .u32 0), (.int .u32 0), (.int .u32 0), (.int .u32 0), (.int .u32 0), (.int .u32 0), (.int .u32 0), (.int .u32 0), (.int .u32 0), (.int .u32 0), (.int .u32 0), (.int .u32 0), (.int .u32 0), (.int .u32 0), (.int .u32 0), (.int .u32 0), (.int .u32 0), (.int .u32 0), (.int .u32 0)] []⟩,
  ⟨some 13, none, .box (.t 12)⟩,
  ⟨some 3, none, .mov (.t 13)⟩])
  (.seq (.ops [⟨some 14, none, .mov (.t 3)⟩,
  ⟨some 15, none, .nilc (.t 14)⟩,
  ⟨some 16, none, .fa 0 (.t 15)⟩,
  ⟨some 17, none, .iaa 40 1 (.t 16) (.c (.int .i64 0))⟩,
  ⟨none, none, .st (.t 17) (.c (.bool true))⟩])
  (c4_opt_Fold))
def c_opt_Fold : C :=
 .seq (.ops [⟨some 2, none, .mov (.c (.slice none 0 0))⟩])
  (.seq (.seq (.ops [⟨some 9, none, .mov (.t 0)⟩,
  ⟨some 10, none, .call n_opt_right [(.t 9)]⟩,
  ⟨some 11, none, .un .not (.t 10)⟩])
  (.cond (.t 11)
  (.seq (.ops [⟨some 2, none, .mov (.c (.slice none 0 0))⟩])
  (.ret))
  (.skip)))
  (c5_opt_Fold))
def f_opt_Fold : F := ⟨c_opt_Fold, [.t 2], some []⟩
theorem h_opt_Fold : compF Tryz.prog (compAny Tryz.prog) n_opt_Fold = some (f_opt_Fold.body, f_opt_Fold.res) := by kernel_rfl
def c0_lift_Is : C :=
 .seq (.ops [⟨some 3, none, .ldn 6 (.t 1)⟩,
  ⟨some 4, none, .call n_decode_Right [(.t 3)]⟩,
  ⟨some 5, none, .mov (.t 4)⟩,
  ⟨some 6, some (5, true), .ldn 6 (.t 1)⟩,
  ⟨some 7, some (5, true), .call n_decode_Class [(.t 6)]⟩,
  ⟨some 8, some (5, true), .bin .eql (.t 7) (.c (.int .i64 1))⟩,
  ⟨some 9, none, .pick (.t 5) (.t 8) (.c (.bool false))⟩,
  ⟨some 2, none, .mov (.t 9)⟩])
  (.ret)
def c_lift_Is : C :=
 .seq (.ops [⟨some 1, none, .box (.t 0)⟩,
  ⟨some 2, none, .mov (.c (.bool false))⟩])
  (c0_lift_Is)
def f_lift_Is : F := ⟨c_lift_Is, [.t 2], some []⟩
theorem h_lift_Is : compF Tryz.prog (compAny Tryz.prog) n_lift_Is = some (f_lift_Is.body, f_lift_Is.res) := by kernel_rfl
def c0_lift_kind : C :=
 .seq (.ops [⟨some 50, none, .bin .eql (.t 3) (.c (.int .i64 9))⟩,
  ⟨some 49, none, .mov (.t 50)⟩])
  (.cond (.t 49)
  (.seq (.ops [⟨some 2, none, .mov (.c (.int .i64 21))⟩])
  (.ret))
  (.seq (.ops [⟨some 52, none, .bin .eql (.t 3) (.c (.int .i64 10))⟩,
  ⟨some 51, none, .mov (.t 52)⟩])
  (.cond (.t 51)
  (.seq (.ops [⟨some 2, none, .mov (.c (.int .i64 22))⟩])
  (.ret))
  (.skip))))
def c1_lift_kind : C :=
 .seq (.ops [⟨some 46, none, .bin .eql (.t 3) (.c (.int .i64 20))⟩,
  ⟨some 45, none, .mov (.t 46)⟩])
  (.cond (.t 45)
  (.seq (.ops [⟨some 2, none, .mov (.c (.int .i64 19))⟩])
  (.ret))
  (.seq (.ops [⟨some 48, none, .bin .eql (.t 3) (.c (.int .i64 21))⟩,
  ⟨some 47, none, .mov (.t 48)⟩])
  (.cond (.t 47)
  (.seq (.ops [⟨some 2, none, .mov (.c (.int .i64 20))⟩])
  (.ret))
  (c0_lift_kind))))
def c2_lift_kind : C :=
 .seq (.ops [⟨some 42, none, .bin .eql (.t 3) (.c (.int .i64 18))⟩,
  ⟨some 41, none, .mov (.t 42)⟩])
  (.cond (.t 41)
  (.seq (.ops [⟨some 2, none, .mov (.c (.int .i64 17))⟩])
  (.ret))
  (.seq (.ops [⟨some 44, none, .bin .eql (.t 3) (.c (.int .i64 19))⟩,
  ⟨some 43, none, .mov (.t 44)⟩])
  (.cond (.t 43)
  (.seq (.ops [⟨some 2, none, .mov (.c (.int .i64 18))⟩])
  (.ret))
  (c1_lift_kind))))
def c3_lift_kind : C :=
 .seq (.ops [⟨some 38, none, .bin .eql (.t 3) (.c (.int .i64 64))⟩,
  ⟨some 37, none, .mov (.t 38)⟩])
  (.cond (.t 37)
  (.seq (.ops [⟨some 2, none, .mov (.c (.int .i64 15))⟩])
  (.ret))
  (.seq (.ops [⟨some 40, none, .bin .eql (.t 3) (.c (.int .i64 65))⟩,
  ⟨some 39, none, .mov (.t 40)⟩])
  (.cond (.t 39)
  (.seq (.ops [⟨some 2, none, .mov (.c (.int .i64 16))⟩])
  (.ret))
  (c2_lift_kind))))
def c4_lift_kind : C :=
 .seq (.seq (.ops [⟨some 33, none, .bin .eql (.t 3) (.c (.int .i64 31))⟩,
  ⟨some 32, none, .mov (.t 33)⟩])
  (.cond (.t 32)
  (.skip)
  (.ops [⟨some 34, none, .bin .eql (.t 3) (.c (.int .i64 49))⟩,
  ⟨some 32, none, .mov (.t 34)⟩])))
  (.cond (.t 32)
  (.seq (.ops [⟨some 2, none, .mov (.c (.int .i64 13))⟩])
  (.ret))
  (.seq (.ops [⟨some 36, none, .bin .eql (.t 3) (.c (.int .i64 63))⟩,
  ⟨some 35, none, .mov (.t 36)⟩])
  (.cond (.t 35)
  (.seq (.ops [⟨some 2, none, .mov (.c (.int .i64 14))⟩])
  (.ret))
  (c3_lift_kind))))
def c5_lift_kind : C :=
 .seq (.seq (.ops [⟨some 30, none, .bin .eql (.t 3) (.c (.int .i64 30))⟩,
  ⟨some 29, none, .mov (.t 30)⟩])
  (.cond (.t 29)
  (.skip)
  (.ops [⟨some 31, none, .bin .eql (.t 3) (.c (.int .i64 48))⟩,
  ⟨some 29, none, .mov (.t 31)⟩])))
  (.cond (.t 29)
  (.seq (.ops [⟨some 2, none, .mov (.c (.int .i64 12))⟩])
  (.ret))
  (c4_lift_kind))
def c6_lift_kind : C :=
 .seq (.seq (.ops [⟨some 25, none, .bin .eql (.t 3) (.c (.int .i64 28))⟩,
  ⟨some 24, none, .mov (.t 25)⟩])
  (.cond (.t 24)
  (.skip)
  (.ops [⟨some 26, none, .bin .eql (.t 3) (.c (.int .i64 52))⟩,
  ⟨some 24, none, .mov (.t 26)⟩])))
  (.cond (.t 24)
  (.seq (.ops [⟨some 2, none, .mov (.c (.int .i64 7))⟩])
  (.ret))
  (.seq (.ops [⟨some 28, none, .bin .eql (.t 3) (.c (.int .i64 29))⟩,
  ⟨some 27, none, .mov (.t 28)⟩])
  (.cond (.t 27)
  (.seq (.ops [⟨some 2, none, .mov (.c (.int .i64 8))⟩])
  (.ret))
  (c5_lift_kind))))
def c7_lift_kind : C :=
 .seq (.seq (.ops [⟨some 22, none, .bin .eql (.t 3) (.c (.int .i64 27))⟩,
  ⟨some 21, none, .mov (.t 22)⟩])
  (.cond (.t 21)
  (.skip)
  (.ops [⟨some 23, none, .bin .eql (.t 3) (.c (.int .i64 51))⟩,
  ⟨some 21, none, .mov (.t 23)⟩])))
  (.cond (.t 21)
  (.seq (.ops [⟨some 2, none, .mov (.c (.int .i64 6))⟩])
  (.ret))
  (c6_lift_kind))
def c8_lift_kind : C :=
 .seq (.seq (.ops [⟨some 19, none, .bin .eql (.t 3) (.c (.int .i64 26))⟩,
  ⟨some 18, none, .mov (.t 19)⟩])
  (.cond (.t 18)
  (.skip)
  (.ops [⟨some 20, none, .bin .eql (.t 3) (.c (.int .i64 50))⟩,
  ⟨some 18, none, .mov (.t 20)⟩])))
  (.cond (.t 18)
  (.seq (.ops [⟨some 2, none, .mov (.c (.int .i64 5))⟩])
  (.ret))
  (c7_lift_kind))
def c9_lift_kind : C :=
 .seq (.seq (.ops [⟨some 14, none, .bin .eql (.t 3) (.c (.int .i64 23))⟩,
  ⟨some 13, none, .mov (.t 14)⟩])
  (.cond (.t 13)
  (.skip)
  (.ops [⟨some 15, none, .bin .eql (.t 3) (.c (.int .i64 47))⟩,
  ⟨some 13, none, .mov (.t 15)⟩])))
  (.cond (.t 13)
  (.seq (.ops [⟨some 2, none, .mov (.c (.int .i64 3))⟩])
  (.ret))
  (.seq (.ops [⟨some 17, none, .bin .eql (.t 3) (.c (.int .i64 25))⟩,
  ⟨some 16, none, .mov (.t 17)⟩])
  (.cond (.t 16)
  (.seq (.ops [⟨some 2, none, .mov (.c (.int .i64 4))⟩])
  (.ret))
  (c8_lift_kind))))
def c10_lift_kind : C :=
 .seq (.seq (.ops [⟨some 11, none, .bin .eql (.t 3) (.c (.int .i64 3))⟩,
  ⟨some 10, none, .mov (.t 11)⟩])
  (.cond (.t 10)
  (.skip)
  (.ops [⟨some 12, none, .bin .eql (.t 3) (.c (.int .i64 6))⟩,
  ⟨some 10, none, .mov (.t 12)⟩])))
  (.cond (.t 10)
  (.seq (.ops [⟨some 2, none, .mov (.c (.int .i64 11))⟩])
  (.ret))
  (c9_lift_kind))
def c11_lift_kind : C :=
 .seq (.seq (.ops [⟨some 8, none, .bin .eql (.t 3) (.c (.int .i64 2))⟩,
  ⟨some 7, none, .mov (.t 8)⟩])
  (.cond (.t 7)
  (.skip)
  (.ops [⟨some 9, none, .bin .eql (.t 3) (.c (.int .i64 5))⟩,
  ⟨some 7, none, .mov (.t 9)⟩])))
  (.cond (.t 7)
  (.seq (.ops [⟨some 2, none, .mov (.c (.int .i64 10))⟩])
  (.ret))
  (c10_lift_kind))
def c12_lift_kind : C :=
 .block 0
  (.seq (.seq (.ops [⟨some 5, none, .bin .eql (.t 3) (.c (.int .i64 1))⟩,
  ⟨some 4, none, .mov (.t 5)⟩])
  (.cond (.t 4)
  (.skip)
  (.ops [⟨some 6, none, .bin .eql (.t 3) (.c (.int .i64 4))⟩,
  ⟨some 4, none, .mov (.t 6)⟩])))
  (.cond (.t 4)
  (.seq (.ops [⟨some 2, none, .mov (.c (.int .i64 9))⟩])
  (.ret))
  (c11_lift_kind)))
def c_lift_kind : C :=
 .seq (.ops [⟨some 2, none, .mov (.c (.int .i64 0))⟩])
  (.seq (.seq (.ops [⟨some 3, none, .mov (.t 0)⟩])
  (c12_lift_kind))
  (.seq (.ops [⟨some 2, none, .mov (.c (.int .i64 0))⟩])
  (.ret)))
def f_lift_kind : F := ⟨c_lift_kind, [.t 2], some []⟩
theorem h_lift_kind : compF Tryz.prog (compAny Tryz.prog) n_lift_kind = some (f_lift_kind.body, f_lift_kind.res) := by kernel_rfl
def c0_alu_Into : C :=
 .seq (.ops [⟨some 9, none, .fa 0 (.t 1)⟩,
  ⟨some 10, none, .ld (.t 9)⟩,
  ⟨some 11, none, .bin .geq (.t 10) (.c (.int .i64 46))⟩,
  ⟨some 12, none, .mov (.t 11)⟩,
  ⟨some 13, some (12, true), .fa 0 (.t 1)⟩,
  ⟨some 14, some (12, true), .ld (.t 13)⟩,
  ⟨some 15, some (12, true), .bin .leq (.t 14) (.c (.int .i64 53))⟩,
  ⟨some 16, none, .pick (.t 12) (.t 15) (.c (.bool false))⟩,
  ⟨some 8, none, .mov (.t 16)⟩])
  (.cond (.t 8)
  (.seq (.ops [⟨some 17, none, .fa 2 (.t 1)⟩,
  ⟨some 18, none, .ld (.t 17)⟩,
  ⟨some 2, none, .mov (.t 18)⟩])
  (.ret))
  (.skip))
def c1_alu_Into : C :=
 .seq (.block 0
  (.seq (.ops [⟨some 4, none, .fa 0 (.t 1)⟩,
  ⟨some 5, none, .ld (.t 4)⟩,
  ⟨some 6, none, .call n_alu_Is [(.t 5)]⟩,
  ⟨some 7, none, .un .not (.t 6)⟩,
  ⟨some 3, none, .mov (.t 7)⟩])
  (.cond (.t 3)
  (.seq (.ops [⟨some 2, none, .mov (.c (.int .i64 0))⟩])
  (.ret))
  (c0_alu_Into))))
  (.seq (.ops [⟨some 19, none, .fa 3 (.t 1)⟩,
  ⟨some 20, none, .ld (.t 19)⟩,
  ⟨some 2, none, .mov (.t 20)⟩])
  (.ret))
def c_alu_Into : C :=
 .seq (.ops [⟨some 1, none, .box (.t 0)⟩,
  ⟨some 2, none, .mov (.c (.int .i64 0))⟩])
  (c1_alu_Into)
def f_alu_Into : F := ⟨c_alu_Into, [.t 2], some []⟩
theorem h_alu_Into : compF Tryz.prog (compAny Tryz.prog) n_alu_Into = some (f_alu_Into.body, f_alu_Into.res) := by kernel_rfl
def c0_lift_imm : C :=
 .seq (.seq (.ops [⟨some 3, none, .fa 0 (.t 1)⟩,
  ⟨some 4, none, .ld (.t 3)⟩,
  ⟨some 5, none, .bin .eql (.t 4) (.c (.int .i64 50))⟩,
  ⟨some 6, none, .mov (.t 5)⟩,
  ⟨some 7, some (6, false), .fa 0 (.t 1)⟩,
  ⟨some 8, some (6, false), .ld (.t 7)⟩,
  ⟨some 9, some (6, false), .bin .eql (.t 8) (.c (.int .i64 51))⟩,
  ⟨some 10, none, .pick (.t 6) (.c (.bool true)) (.t 9)⟩,
  ⟨some 11, none, .mov (.t 10)⟩,
  ⟨some 12, some (11, false), .fa 0 (.t 1)⟩,
  ⟨some 13, some (11, false), .ld (.t 12)⟩,
  ⟨some 14, some (11, false), .bin .eql (.t 13) (.c (.int .i64 52))⟩,
  ⟨some 15, none, .pick (.t 11) (.c (.bool true)) (.t 14)⟩])
  (.cond (.t 15)
  (.seq (.ops [⟨some 16, none, .fa 5 (.t 1)⟩,
  ⟨some 17, none, .ld (.t 16)⟩,
  ⟨some 2, none, .mov (.t 17)⟩])
  (.ret))
  (.skip)))
  (.seq (.ops [⟨some 18, none, .fa 5 (.t 1)⟩,
  ⟨some 19, none, .ld (.t 18)⟩,
  ⟨some 20, none, .call n_word_Sign [(.t 19), (.c (.int .i64 16))]⟩,
  ⟨some 2, none, .mov (.t 20)⟩])
  (.ret))
def c_lift_imm : C :=
 .seq (.ops [⟨some 1, none, .box (.t 0)⟩,
  ⟨some 2, none, .mov (.c (.int .u32 0))⟩])
  (c0_lift_imm)
def f_lift_imm : F := ⟨c_lift_imm, [.t 2], some []⟩
theorem h_lift_imm : compF Tryz.prog (compAny Tryz.prog) n_lift_imm = some (f_lift_imm.body, f_lift_imm.res) := by kernel_rfl
def c0_pianolaref3_special : C :=
 .seq (.ops [⟨some 1, none, .build [(.int .i64 0), (.int .i64 0), (.int .i64 0), (.string .empty)] [(0, 1, (.c (.int .i64 0))), (1, 1, (.c (.int .i64 0))), (2, 1, (.c (.int .i64 1))), (3, 1, (.c (.string ⟨#[116, 100, 104]⟩)))]⟩,
  ⟨some 2, none, .build [(.int .i64 0), (.int .i64 0), (.int .i64 0), (.string .empty)] [(0, 1, (.c (.int .i64 0))), (1, 1, (.c (.int .i64 2))), (2, 1, (.c (.int .i64 2))), (3, 1, (.c (.string ⟨#[116, 100, 104]⟩)))]⟩,
  ⟨some 3, none, .build [(.int .i64 0), (.int .i64 0), (.int .i64 0), (.string .empty)] [(0, 1, (.c (.int .i64 0))), (1, 1, (.c (.int .i64 3))), (2, 1, (.c (.int .i64 3))), (3, 1, (.c (.string ⟨#[116, 100, 104]⟩)))]⟩,
  ⟨some 4, none, .build [(.int .i64 0), (.int .i64 0), (.int .i64 0), (.string .empty)] [(0, 1, (.c (.int .i64 0))), (1, 1, (.c (.int .i64 4))), (2, 1, (.c (.int .i64 4))), (3, 1, (.c (.string ⟨#[115, 116, 100]⟩)))]⟩,
  ⟨some 5, none, .build [(.int .i64 0), (.int .i64 0), (.int .i64 0), (.string .empty)] [(0, 1, (.c (.int .i64 0))), (1, 1, (.c (.int .i64 6))), (2, 1, (.c (.int .i64 5))), (3, 1, (.c (.string ⟨#[115, 116, 100]⟩)))]⟩,
  ⟨some 6, none, .build [(.int .i64 0), (.int .i64 0), (.int .i64 0), (.string .empty)] [(0, 1, (.c (.int .i64 0))), (1, 1, (.c (.int .i64 7))), (2, 1, (.c (.int .i64 6))), (3, 1, (.c (.string ⟨#[115, 116, 100]⟩)))]⟩,
  ⟨some 7, none, .build [(.int .i64 0), (.int .i64 0), (.int .i64 0), (.string .empty)] [(0, 1, (.c (.int .i64 0))), (1, 1, (.c (.int .i64 8))), (2, 1, (.c (.int .i64 7))), (3, 1, (.c (.string ⟨#[115]⟩)))]⟩,
  ⟨some 8, none, .build [(.int .i64 0), (.int .i64 0), (.int .i64 0), (.string .empty)] [(0, 1, (.c (.int .i64 0))), (1, 1, (.c (.int .i64 9))), (2, 1, (.c (.int .i64 8))), (3, 1, (.c (.string ⟨#[115, 100]⟩)))]⟩,
  ⟨some 9, none, .build [(.int .i64 0), (.int .i64 0), (.int .i64 0), (.string .empty)] [(0, 1, (.c (.int .i64 0))), (1, 1, (.c (.int .i64 10))), (2, 1, (.c (.int .i64 9))), (3, 1, (.c (.string ⟨#[115, 116, 100]⟩)))]⟩,
  ⟨some 10, none, .build [(.int .i64 0), (.int .i64 0), (.int .i64 0), (.string .empty)] [(0, 1, (.c (.int .i64 0))), (1, 1, (.c (.int .i64 11))), (2, 1, (.c (.int .i64 10))), (3, 1, (.c (.string ⟨#[115, 116, 100]⟩)))]⟩,
  ⟨some 11, none, .build [(.int .i64 0), (.int .i64 0), (.int .i64 0), (.string .empty)] [(0, 1, (.c (.int .i64 0))), (1, 1, (.c (.int .i64 12))), (2, 1, (.c (.int .i64 11))), (3, 1, (.c (.string .empty)))]⟩,
  ⟨some 12, none, .build [(.int .i64 0), (.int .i64 0), (.int .i64 0), (.string .empty)] [(0, 1, (.c (.int .i64 0))), (1, 1, (.c (.int .i64 13))), (2, 1, (.c (.int .i64 12))), (3, 1, (.c (.string .empty)))]⟩,
  ⟨some 13, none, .build [(.int .i64 0), (.int .i64 0), (.int .i64 0), (.string .empty)] [(0, 1, (.c (.int .i64 0))), (1, 1, (.c (.int .i64 15))), (2, 1, (.c (.int .i64 13))), (3, 1, (.c (.string .empty)))]⟩,
  ⟨some 14, none, .build [(.int .i64 0), (.int .i64 0), (.int .i64 0), (.string .empty)] [(0, 1, (.c (.int .i64 0))), (1, 1, (.c (.int .i64 16))), (2, 1, (.c (.int .i64 14))), (3, 1, (.c (.string ⟨#[100]⟩)))]⟩,
  ⟨some 15, none, .build [(.int .i64 0), (.int .i64 0), (.int .i64 0), (.string .empty)] [(0, 1, (.c (.int .i64 0))), (1, 1, (.c (.int .i64 17))), (2, 1, (.c (.int .i64 15))), (3, 1, (.c (.string ⟨#[115]⟩)))]⟩,
  ⟨some 16, none, .build [(.int .i64 0), (.int .i64 0), (.int .i64 0), (.string .empty)] [(0, 1, (.c (.int .i64 0))), (1, 1, (.c (.int .i64 18))), (2, 1, (.c (.int .i64 16))), (3, 1, (.c (.string ⟨#[100]⟩)))]⟩,
  ⟨some 17, none, .build [(.int .i64 0), (.int .i64 0), (.int .i64 0), (.string .empty)] [(0, 1, (.c (.int .i64 0))), (1, 1, (.c (.int .i64 19))), (2, 1, (.c (.int .i64 17))), (3, 1, (.c (.string ⟨#[115]⟩)))]⟩,
  ⟨some 18, none, .build [(.int .i64 0), (.int .i64 0), (.int .i64 0), (.string .empty)] [(0, 1, (.c (.int .i64 0))), (1, 1, (.c (.int .i64 24))), (2, 1, (.c (.int .i64 18))), (3, 1, (.c (.string ⟨#[115, 116]⟩)))]⟩,
  ⟨some 19, none, .build [(.int .i64 0), (.int .i64 0), (.int .i64 0), (.string .empty)] [(0, 1, (.c (.int .i64 0))), (1, 1, (.c (.int .i64 25))), (2, 1, (.c (.int .i64 19))), (3, 1, (.c (.string ⟨#[115, 116]⟩)))]⟩,
  ⟨some 20, none, .build [(.int .i64 0), (.int .i64 0), (.int .i64 0), (.string .empty)] [(0, 1, (.c (.int .i64 0))), (1, 1, (.c (.int .i64 26))), (2, 1, (.c (.int .i64 20))), (3, 1, (.c (.string ⟨#[115, 116]⟩)))]⟩,
  ⟨some 21, none, .build [(.int .i64 0), (.int .i64 0), (.int .i64 0), (.string .empty)] [(0, 1, (.c (.int .i64 0))), (1, 1, (.c (.int .i64 27))), (2, 1, (.c (.int .i64 21))), (3, 1, (.c (.string ⟨#[115, 116]⟩)))]⟩,
  ⟨some 22, none, .build [(.int .i64 0), (.int .i64 0), (.int .i64 0), (.string .empty)] [(0, 1, (.c (.int .i64 0))), (1, 1, (.c (.int .i64 32))), (2, 1, (.c (.int .i64 22))), (3, 1, (.c (.string ⟨#[115, 116, 100]⟩)))]⟩,
  ⟨some 23, none, .build [(.int .i64 0), (.int .i64 0), (.int .i64 0), (.string .empty)] [(0, 1, (.c (.int .i64 0))), (1, 1, (.c (.int .i64 33))), (2, 1, (.c (.int .i64 23))), (3, 1, (.c (.string ⟨#[115, 116, 100]⟩)))]⟩,
  ⟨some 24, none, .build [(.int .i64 0), (.int .i64 0), (.int .i64 0), (.string .empty)] [(0, 1, (.c (.int .i64 0))), (1, 1, (.c (.int .i64 34))), (2, 1, (.c (.int .i64 24))), (3, 1, (.c (.string ⟨#[115, 116, 100]⟩)))]⟩,
  ⟨some 25, none, .build [(.int .i64 0), (.int .i64 0), (.int .i64 0), (.string .empty)] [(0, 1, (.c (.int .i64 0))), (1, 1, (.c (.int .i64 35))), (2, 1, (.c (.int .i64 25))), (3, 1, (.c (.string ⟨#[115, 116, 100]⟩)))]⟩,
  ⟨some 26, none, .build [(.int .i64 0), (.int .i64 0), (.int .i64 0), (.string .empty)] [(0, 1, (.c (.int .i64 0))), (1, 1, (.c (.int .i64 36))), (2, 1, (.c (.int .i64 26))), (3, 1, (.c (.string ⟨#[115, 116, 100]⟩)))]⟩,
  ⟨some 27, none, .build [(.int .i64 0), (.int .i64 0), (.int .i64 0), (.string .empty)] [(0, 1, (.c (.int .i64 0))), (1, 1, (.c (.int .i64 37))), (2, 1, (.c (.int .i64 27))), (3, 1, (.c (.string ⟨#[115, 116, 100]⟩)))]⟩,
  ⟨some 28, none, .build [(.int .i64 0), (.int .i64 0), (.int .i64 0), (.string .empty)] [(0, 1, (.c (.int .i64 0))), (1, 1, (.c (.int .i64 38))), (2, 1, (.c (.int .i64 28))), (3, 1, (.c (.string ⟨#[115, 116, 100]⟩)))]⟩,
  ⟨some 29, none, .build [(.int .i64 0), (.int .i64 0), (.int .i64 0), (.string .empty)] [(0, 1, (.c (.int .i64 0))), (1, 1, (.c (.int .i64 39))), (2, 1, (.c (.int .i64 29))), (3, 1, (.c (.string ⟨#[115, 116, 100]⟩)))]⟩,
  ⟨some 30, none, .build [(.int .i64 0), (.int .i64 0), (.int .i64 0), (.string .empty)] [(0, 1, (.c (.int .i64 0))), (1, 1, (.c (.int .i64 42))), (2, 1, (.c (.int .i64 30))), (3, 1, (.c (.string ⟨#[115, 116, 100]⟩)))]⟩,
  ⟨some 31, none, .build [(.int .i64 0), (.int .i64 0), (.int .i64 0), (.string .empty)] [(0, 1, (.c (.int .i64 0))), (1, 1, (.c (.int .i64 43))), (2, 1, (.c (.int .i64 31))), (3, 1, (.c (.string ⟨#[115, 116, 100]⟩)))]⟩,
  ⟨some 32, none, .build [(.int .i64 0), (.int .i64 0), (.int .i64 0), (.string .empty)] [(0, 1, (.c (.int .i64 0))), (1, 1, (.c (.int .i64 48))), (2, 1, (.c (.int .i64 32))), (3, 1, (.c (.string ⟨#[115, 116]⟩)))]⟩,
  ⟨some 33, none, .build [(.int .i64 0), (.int .i64 0), (.int .i64 0), (.string .empty)] [(0, 1, (.c (.int .i64 0))), (1, 1, (.c (.int .i64 50))), (2, 1, (.c (.int .i64 33))), (3, 1, (.c (.string ⟨#[115, 116]⟩)))]⟩,
  ⟨some 34, none, .build [(.int .i64 0), (.int .i64 0), (.int .i64 0), (.string .empty)] [(0, 1, (.c (.int .i64 0))), (1, 1, (.c (.int .i64 52))), (2, 1, (.c (.int .i64 34))), (3, 1, (.c (.string ⟨#[115, 116]⟩)))]⟩,
  ⟨some 35, none, .build [(.int .i64 0), (.int .i64 0), (.int .i64 0), (.string .empty)] [(0, 1, (.c (.int .i64 0))), (1, 1, (.c (.int .i64 54))), (2, 1, (.c (.int .i64 35))), (3, 1, (.c (.string ⟨#[115, 116]⟩)))]⟩,
  ⟨some 36, none, .bsl 35 [(.int .i64 0), (.int .i64 0), (.int .i64 0), (.string .empty), (.int .i64 0), (.int .i64 0), (.int .i64 0), (.string .empty), (.int .i64 0), (.int .i64 0), (.int .i64 0), (.string .empty), (.int .i64 0), (.int .i64 0), (.int .i64 0), (.string .empty), (.int .i64 0), (.int .i64 0), (.int .i64 0), (.string .empty), (.int .i64 0), (.int .i64 0), (.int .i64 0), (.string .empty), (.int .i64 0), (.int .i64 0), (.int .i64 0), (.string .empty), (.int .i64 0), (.int .i64 0), (.int .i64 0), (.string .empty), (.int .i64 0), (.int .i64 0), (.int .i64 0), (.string .empty), (.int .i64 0), (.int .i64 0), (.int .i64 0), (.string .empty), (.int .i64 0), (.int .i64 0), (.int .i64 0), (.string .empty), (.int .i64 0), (.int .i64 0), (.int .i64 0), (.string .empty), (.int .i64 0), (.int .i64 0), (.int .i64 0), (.string .empty), (.int .i64 0), (.int .i64 0), (.int .i64 0), (.string .empty), (.int .i64 0), (.int .i64 0), (.int .i64 0), (.string .empty), (.int .i64 0), (.int .i64 0), (.int .i64 0), (.string .empty), (.int .i64 0), (.int .i64 0), (.int .i64 0), (.string .empty), (.int .i64 0), (.int .i64 0), (.int .i64 0), (.string .empty), (.int .i64 0), (.int .i64 0), (.int .i64 0), (.string .empty), (.int .i64 0), (.int .i64 0), (.int .i64 0), (.string .empty), (.int .i64 0), (.int .i64 0), (.int .i64 0), (.string .empty), (.int .i64 0), (.int .i64 0), (.int .i64 0), (.string .empty), (.int .i64 0), (.int .i64 0), (.int .i64 0), (.string .empty), (.int .i64 0), (.int .i64 0), (.int .i64 0), (.string .empty), (.int .i64 0), (.int .i64 0), (.int .i64 0), (.string .empty), (.int .i64 0), (.int .i64 0), (.int .i64 0), (.string .empty), (.int .i64 0), (.int .i64 0), (.int .i64 0), (.string .empty), (.int .i64 0), (.int .i64 0), (.int .i64 0), (.string .empty), (.int .i64 0), (.int .i64 0), (.int .i64 0), (.string .empty), (.int .i64 0), (.int .i64 0), (.int .i64 0), (.string .empty), (.int .i64 0), (.int .i64 0), (.int .i64 0), (.string .empty), (.int .i64 0), (.int .i64 0), (.int .i64 0), (.string .empty), (.int .i64 0), (.int .i64 0), (.int .i64 0), (.string .empty), (.int .i64 0), (.int .i64 0), (.int .i64 0), (.string .empty), (.int .i64 0), (.int .i64 0), (.int .i64 0), (.string .empty)] [(0, 4, (.t 1)), (4, 4, (.t 2)), (8, 4, (.t 3)), (12, 4, (.t 4)), (16, 4, (.t 5)), (20, 4, (.t 6)), (24, 4, (.t 7)), (28, 4, (.t 8)), (32, 4, (.t 9)), (36, 4, (.t 10)), (40, 4, (.t 11)), (44, 4, (.t 12)), (48, 4, (.t 13)), (52, 4, (.t 14)), (56, 4, (.t 15)), (60, 4, (.t 16)), (64, 4, (.t 17)), (68, 4, (.t 18)), (72, 4, (.t 19)), (76, 4, (.t 20)), (80, 4, (.t 21)), (84, 4, (.t 22)), (88, 4, (.t 23)), (92, 4, (.t 24)), (96, 4, (.t 25)), (100, 4, (.t 26)), (104, 4, (.t 27)), (108, 4, (.t 28)), (112, 4, (.t 29)), (116, 4, (.t 30)), (120, 4, (.t 31)), (124, 4, (.t 32)), (128, 4, (.t 33)), (132, 4, (.t 34)), (136, 4, (.t 35))]⟩,
  ⟨some 0, none, .mov (.t 36)⟩])
  (.ret)
def c_pianolaref3_special : C :=
 .seq (.ops [⟨some 0, none, .mov (.c (.slice none 0 0))⟩])
  (c0_pianolaref3_special)
def f_pianolaref3_special : F := ⟨c_pianolaref3_special, [.t 0], some []⟩
theorem h_pianolaref3_special : compF Tryz.prog (compAny Tryz.prog) n_pianolaref3_special = some (f_pianolaref3_special.body, f_pianolaref3_special.res) := by kernel_rfl
end Go.Proofs.YtmgoleiafiffoaaGreat.Cd

set_option maxRecDepth 100000
set_option linter.defProp false
namespace Go.Proofs.YtmgoleiafiffoaaGreat.Cd
open Go Go.Dx
def c0_pianolaref3_others : C :=
 .seq (.ops [⟨some 1, none, .build [(.int .i64 0), (.int .i64 0), (.int .i64 0), (.string .empty)] [(0, 1, (.c (.int .i64 1))), (1, 1, (.c (.int .i64 0))), (2, 1, (.c (.int .i64 36))), (3, 1, (.c (.string ⟨#[115, 105]⟩)))]⟩,
  ⟨some 2, none, .build [(.int .i64 0), (.int .i64 0), (.int .i64 0), (.string .empty)] [(0, 1, (.c (.int .i64 1))), (1, 1, (.c (.int .i64 1))), (2, 1, (.c (.int .i64 37))), (3, 1, (.c (.string ⟨#[115, 105]⟩)))]⟩,
  ⟨some 3, none, .build [(.int .i64 0), (.int .i64 0), (.int .i64 0), (.string .empty)] [(0, 1, (.c (.int .i64 1))), (1, 1, (.c (.int .i64 16))), (2, 1, (.c (.int .i64 38))), (3, 1, (.c (.string ⟨#[115, 105]⟩)))]⟩,
  ⟨some 4, none, .build [(.int .i64 0), (.int .i64 0), (.int .i64 0), (.string .empty)] [(0, 1, (.c (.int .i64 1))), (1, 1, (.c (.int .i64 17))), (2, 1, (.c (.int .i64 39))), (3, 1, (.c (.string ⟨#[115, 105]⟩)))]⟩,
  ⟨some 5, none, .build [(.int .i64 0), (.int .i64 0), (.int .i64 0), (.string .empty)] [(0, 1, (.c (.int .i64 16))), (1, 1, (.c (.int .i64 0))), (2, 1, (.c (.int .i64 54))), (3, 1, (.c (.string ⟨#[116, 100]⟩)))]⟩,
  ⟨some 6, none, .build [(.int .i64 0), (.int .i64 0), (.int .i64 0), (.string .empty)] [(0, 1, (.c (.int .i64 16))), (1, 1, (.c (.int .i64 4))), (2, 1, (.c (.int .i64 55))), (3, 1, (.c (.string ⟨#[116, 100]⟩)))]⟩,
  ⟨some 7, none, .build [(.int .i64 0), (.int .i64 0), (.int .i64 0), (.string .empty)] [(0, 1, (.c (.int .i64 16))), (1, 1, (.c (.int .i64 65))), (2, 1, (.c (.int .i64 56))), (3, 1, (.c (.string .empty)))]⟩,
  ⟨some 8, none, .build [(.int .i64 0), (.int .i64 0), (.int .i64 0), (.string .empty)] [(0, 1, (.c (.int .i64 16))), (1, 1, (.c (.int .i64 66))), (2, 1, (.c (.int .i64 57))), (3, 1, (.c (.string .empty)))]⟩,
  ⟨some 9, none, .build [(.int .i64 0), (.int .i64 0), (.int .i64 0), (.string .empty)] [(0, 1, (.c (.int .i64 16))), (1, 1, (.c (.int .i64 70))), (2, 1, (.c (.int .i64 58))), (3, 1, (.c (.string .empty)))]⟩,
  ⟨some 10, none, .build [(.int .i64 0), (.int .i64 0), (.int .i64 0), (.string .empty)] [(0, 1, (.c (.int .i64 16))), (1, 1, (.c (.int .i64 72))), (2, 1, (.c (.int .i64 59))), (3, 1, (.c (.string .empty)))]⟩,
  ⟨some 11, none, .build [(.int .i64 0), (.int .i64 0), (.int .i64 0), (.string .empty)] [(0, 1, (.c (.int .i64 16))), (1, 1, (.c (.int .i64 88))), (2, 1, (.c (.int .i64 60))), (3, 1, (.c (.string .empty)))]⟩,
  ⟨some 12, none, .build [(.int .i64 0), (.int .i64 0), (.int .i64 0), (.string .empty)] [(0, 1, (.c (.int .i64 16))), (1, 1, (.c (.int .i64 96))), (2, 1, (.c (.int .i64 61))), (3, 1, (.c (.string .empty)))]⟩,
  ⟨some 13, none, .build [(.int .i64 0), (.int .i64 0), (.int .i64 0), (.string .empty)] [(0, 1, (.c (.int .i64 28))), (1, 1, (.c (.int .i64 2))), (2, 1, (.c (.int .i64 63))), (3, 1, (.c (.string ⟨#[115, 116, 100]⟩)))]⟩,
  ⟨some 14, none, .build [(.int .i64 0), (.int .i64 0), (.int .i64 0), (.string .empty)] [(0, 1, (.c (.int .i64 28))), (1, 1, (.c (.int .i64 32))), (2, 1, (.c (.int .i64 64))), (3, 1, (.c (.string ⟨#[115, 100]⟩)))]⟩,
  ⟨some 15, none, .build [(.int .i64 0), (.int .i64 0), (.int .i64 0), (.string .empty)] [(0, 1, (.c (.int .i64 28))), (1, 1, (.c (.int .i64 33))), (2, 1, (.c (.int .i64 65))), (3, 1, (.c (.string ⟨#[115, 100]⟩)))]⟩,
  ⟨some 16, none, .bsl 15 [(.int .i64 0), (.int .i64 0), (.int .i64 0), (.string .empty), (.int .i64 0), (.int .i64 0), (.int .i64 0), (.string .empty), (.int .i64 0), (.int .i64 0), (.int .i64 0), (.string .empty), (.int .i64 0), (.int .i64 0), (.int .i64 0), (.string .empty), (.int .i64 0), (.int .i64 0), (.int .i64 0), (.string .empty), (.int .i64 0), (.int .i64 0), (.int .i64 0), (.string .empty), (.int .i64 0), (.int .i64 0), (.int .i64 0), (.string .empty), (.int .i64 0), (.int .i64 0), (.int .i64 0), (.string .empty), (.int .i64 0), (.int .i64 0), (.int .i64 0), (.string .empty), (.int .i64 0), (.int .i64 0), (.int .i64 0), (.string .empty), (.int .i64 0), (.int .i64 0), (.int .i64 0), (.string .empty), (.int .i64 0), (.int .i64 0), (.int .i64 0), (.string .empty), (.int .i64 0), (.int .i64 0), (.int .i64 0), (.string .empty), (.int .i64 0), (.int .i64 0), (.int .i64 0), (.string .empty), (.int .i64 0), (.int .i64 0), (.int .i64 0), (.string .empty)] [(0, 4, (.t 1)), (4, 4, (.t 2)), (8, 4, (.t 3)), (12, 4, (.t 4)), (16, 4, (.t 5)), (20, 4, (.t 6)), (24, 4, (.t 7)), (28, 4, (.t 8)), (32, 4, (.t 9)), (36, 4, (.t 10)), (40, 4, (.t 11)), (44, 4, (.t 12)), (48, 4, (.t 13)), (52, 4, (.t 14)), (56, 4, (.t 15))]⟩,
  ⟨some 0, none, .mov (.t 16)⟩])
  (.ret)
def c_pianolaref3_others : C :=
 .seq (.ops [⟨some 0, none, .mov (.c (.slice none 0 0))⟩])
  (c0_pianolaref3_others)
def f_pianolaref3_others : F := ⟨c_pianolaref3_others, [.t 0], some []⟩
theorem h_pianolaref3_others : compF Tryz.prog (compAny Tryz.prog) n_pianolaref3_others = some (f_pianolaref3_others.body, f_pianolaref3_others.res) := by kernel_rfl
def c0_pianolaref3_plain : C :=
 .seq (.ops [⟨some 1, none, .build [(.int .i64 0), (.int .i64 0), (.int .i64 0), (.string .empty)] [(0, 1, (.c (.int .i64 2))), (1, 1, (.c (.int .i64 0))), (2, 1, (.c (.int .i64 40))), (3, 1, (.c (.string ⟨#[106]⟩)))]⟩,
  ⟨some 2, none, .build [(.int .i64 0), (.int .i64 0), (.int .i64 0), (.string .empty)] [(0, 1, (.c (.int .i64 3))), (1, 1, (.c (.int .i64 0))), (2, 1, (.c (.int .i64 41))), (3, 1, (.c (.string ⟨#[106]⟩)))]⟩,
  ⟨some 3, none, .build [(.int .i64 0), (.int .i64 0), (.int .i64 0), (.string .empty)] [(0, 1, (.c (.int .i64 4))), (1, 1, (.c (.int .i64 0))), (2, 1, (.c (.int .i64 42))), (3, 1, (.c (.string ⟨#[115, 116, 105]⟩)))]⟩,
  ⟨some 4, none, .build [(.int .i64 0), (.int .i64 0), (.int .i64 0), (.string .empty)] [(0, 1, (.c (.int .i64 5))), (1, 1, (.c (.int .i64 0))), (2, 1, (.c (.int .i64 43))), (3, 1, (.c (.string ⟨#[115, 116, 105]⟩)))]⟩,
  ⟨some 5, none, .build [(.int .i64 0), (.int .i64 0), (.int .i64 0), (.string .empty)] [(0, 1, (.c (.int .i64 6))), (1, 1, (.c (.int .i64 0))), (2, 1, (.c (.int .i64 44))), (3, 1, (.c (.string ⟨#[115, 105]⟩)))]⟩,
  ⟨some 6, none, .build [(.int .i64 0), (.int .i64 0), (.int .i64 0), (.string .empty)] [(0, 1, (.c (.int .i64 7))), (1, 1, (.c (.int .i64 0))), (2, 1, (.c (.int .i64 45))), (3, 1, (.c (.string ⟨#[115, 105]⟩)))]⟩,
  ⟨some 7, none, .build [(.int .i64 0), (.int .i64 0), (.int .i64 0), (.string .empty)] [(0, 1, (.c (.int .i64 8))), (1, 1, (.c (.int .i64 0))), (2, 1, (.c (.int .i64 46))), (3, 1, (.c (.string ⟨#[115, 116, 105]⟩)))]⟩,
  ⟨some 8, none, .build [(.int .i64 0), (.int .i64 0), (.int .i64 0), (.string .empty)] [(0, 1, (.c (.int .i64 9))), (1, 1, (.c (.int .i64 0))), (2, 1, (.c (.int .i64 47))), (3, 1, (.c (.string ⟨#[115, 116, 105]⟩)))]⟩,
  ⟨some 9, none, .build [(.int .i64 0), (.int .i64 0), (.int .i64 0), (.string .empty)] [(0, 1, (.c (.int .i64 10))), (1, 1, (.c (.int .i64 0))), (2, 1, (.c (.int .i64 48))), (3, 1, (.c (.string ⟨#[115, 116, 105]⟩)))]⟩,
  ⟨some 10, none, .build [(.int .i64 0), (.int .i64 0), (.int .i64 0), (.string .empty)] [(0, 1, (.c (.int .i64 11))), (1, 1, (.c (.int .i64 0))), (2, 1, (.c (.int .i64 49))), (3, 1, (.c (.string ⟨#[115, 116, 105]⟩)))]⟩,
  ⟨some 11, none, .build [(.int .i64 0), (.int .i64 0), (.int .i64 0), (.string .empty)] [(0, 1, (.c (.int .i64 12))), (1, 1, (.c (.int .i64 0))), (2, 1, (.c (.int .i64 50))), (3, 1, (.c (.string ⟨#[115, 116, 105]⟩)))]⟩,
  ⟨some 12, none, .build [(.int .i64 0), (.int .i64 0), (.int .i64 0), (.string .empty)] [(0, 1, (.c (.int .i64 13))), (1, 1, (.c (.int .i64 0))), (2, 1, (.c (.int .i64 51))), (3, 1, (.c (.string ⟨#[115, 116, 105]⟩)))]⟩,
  ⟨some 13, none, .build [(.int .i64 0), (.int .i64 0), (.int .i64 0), (.string .empty)] [(0, 1, (.c (.int .i64 14))), (1, 1, (.c (.int .i64 0))), (2, 1, (.c (.int .i64 52))), (3, 1, (.c (.string ⟨#[115, 116, 105]⟩)))]⟩,
  ⟨some 14, none, .build [(.int .i64 0), (.int .i64 0), (.int .i64 0), (.string .empty)] [(0, 1, (.c (.int .i64 15))), (1, 1, (.c (.int .i64 0))), (2, 1, (.c (.int .i64 53))), (3, 1, (.c (.string ⟨#[116, 105]⟩)))]⟩,
  ⟨some 15, none, .build [(.int .i64 0), (.int .i64 0), (.int .i64 0), (.string .empty)] [(0, 1, (.c (.int .i64 17))), (1, 1, (.c (.int .i64 0))), (2, 1, (.c (.int .i64 62))), (3, 1, (.c (.string .empty)))]⟩,
  ⟨some 16, none, .build [(.int .i64 0), (.int .i64 0), (.int .i64 0), (.string .empty)] [(0, 1, (.c (.int .i64 32))), (1, 1, (.c (.int .i64 0))), (2, 1, (.c (.int .i64 66))), (3, 1, (.c (.string ⟨#[115, 116, 105]⟩)))]⟩,
  ⟨some 17, none, .build [(.int .i64 0), (.int .i64 0), (.int .i64 0), (.string .empty)] [(0, 1, (.c (.int .i64 33))), (1, 1, (.c (.int .i64 0))), (2, 1, (.c (.int .i64 67))), (3, 1, (.c (.string ⟨#[115, 116, 105]⟩)))]⟩,
  ⟨some 18, none, .build [(.int .i64 0), (.int .i64 0), (.int .i64 0), (.string .empty)] [(0, 1, (.c (.int .i64 35))), (1, 1, (.c (.int .i64 0))), (2, 1, (.c (.int .i64 68))), (3, 1, (.c (.string ⟨#[115, 116, 105]⟩)))]⟩,
  ⟨some 19, none, .build [(.int .i64 0), (.int .i64 0), (.int .i64 0), (.string .empty)] [(0, 1, (.c (.int .i64 36))), (1, 1, (.c (.int .i64 0))), (2, 1, (.c (.int .i64 69))), (3, 1, (.c (.string ⟨#[115, 116, 105]⟩)))]⟩,
  ⟨some 20, none, .build [(.int .i64 0), (.int .i64 0), (.int .i64 0), (.string .empty)] [(0, 1, (.c (.int .i64 37))), (1, 1, (.c (.int .i64 0))), (2, 1, (.c (.int .i64 70))), (3, 1, (.c (.string ⟨#[115, 116, 105]⟩)))]⟩,
  ⟨some 21, none, .build [(.int .i64 0), (.int .i64 0), (.int .i64 0), (.string .empty)] [(0, 1, (.c (.int .i64 40))), (1, 1, (.c (.int .i64 0))), (2, 1, (.c (.int .i64 71))), (3, 1, (.c (.string ⟨#[115, 116, 105]⟩)))]⟩,
  ⟨some 22, none, .build [(.int .i64 0), (.int .i64 0), (.int .i64 0), (.string .empty)] [(0, 1, (.c (.int .i64 41))), (1, 1, (.c (.int .i64 0))), (2, 1, (.c (.int .i64 72))), (3, 1, (.c (.string ⟨#[115, 116, 105]⟩)))]⟩,
  ⟨some 23, none, .build [(.int .i64 0), (.int .i64 0), (.int .i64 0), (.string .empty)] [(0, 1, (.c (.int .i64 43))), (1, 1, (.c (.int .i64 0))), (2, 1, (.c (.int .i64 73))), (3, 1, (.c (.string ⟨#[115, 116, 105]⟩)))]⟩,
  ⟨some 24, none, .build [(.int .i64 0), (.int .i64 0), (.int .i64 0), (.string .empty)] [(0, 1, (.c (.int .i64 47))), (1, 1, (.c (.int .i64 0))), (2, 1, (.c (.int .i64 76))), (3, 1, (.c (.string .empty)))]⟩,
  ⟨some 25, none, .build [(.int .i64 0), (.int .i64 0), (.int .i64 0), (.string .empty)] [(0, 1, (.c (.int .i64 48))), (1, 1, (.c (.int .i64 0))), (2, 1, (.c (.int .i64 74))), (3, 1, (.c (.string ⟨#[115, 116, 105]⟩)))]⟩,
  ⟨some 26, none, .build [(.int .i64 0), (.int .i64 0), (.int .i64 0), (.string .empty)] [(0, 1, (.c (.int .i64 51))), (1, 1, (.c (.int .i64 0))), (2, 1, (.c (.int .i64 77))), (3, 1, (.c (.string .empty)))]⟩,
  ⟨some 27, none, .build [(.int .i64 0), (.int .i64 0), (.int .i64 0), (.string .empty)] [(0, 1, (.c (.int .i64 56))), (1, 1, (.c (.int .i64 0))), (2, 1, (.c (.int .i64 75))), (3, 1, (.c (.string ⟨#[115, 116, 105]⟩)))]⟩,
  ⟨some 28, none, .bsl 27 [(.int .i64 0), (.int .i64 0), (.int .i64 0), (.string .empty), (.int .i64 0), (.int .i64 0), (.int .i64 0), (.string .empty), (.int .i64 0), (.int .i64 0), (.int .i64 0), (.string .empty), (.int .i64 0), (.int .i64 0), (.int .i64 0), (.string .empty), (.int .i64 0), (.int .i64 0), (.int .i64 0), (.string .empty), (.int .i64 0), (.int .i64 0), (.int .i64 0), (.string .empty), (.int .i64 0), (.int .i64 0), (.int .i64 0), (.string .empty), (.int .i64 0), (.int .i64 0), (.int .i64 0), (.string .empty), (.int .i64 0), (.int .i64 0), (.int .i64 0), (.string .empty), (.int .i64 0), (.int .i64 0), (.int .i64 0), (.string .empty), (.int .i64 0), (.int .i64 0), (.int .i64 0), (.string .empty), (.int .i64 0), (.int .i64 0), (.int .i64 0), (.string .empty), (.int .i64 0), (.int .i64 0), (.int .i64 0), (.string .empty), (.int .i64 0), (.int .i64 0), (.int .i64 0), (.string .empty), (.int .i64 0), (.int .i64 0), (.int .i64 0), (.string .empty), (.int .i64 0), (.int .i64 0), (.int .i64 0), (.string .empty), (.int .i64 0), (.int .i64 0), (.int .i64 0), (.string .empty), (.int .i64 0), (.int .i64 0), (.int .i64 0), (.string .empty), (.int .i64 0), (.int .i64 0), (.int .i64 0), (.string .empty), (.int .i64 0), (.int .i64 0), (.int .i64 0), (.string .empty), (.int .i64 0), (.int .i64 0), (.int .i64 0), (.string .empty), (.int .i64 0), (.int .i64 0), (.int .i64 0), (.string .empty), (.int .i64 0), (.int .i64 0), (.int .i64 0), (.string .empty), (.int .i64 0), (.int .i64 0), (.int .i64 0), (.string .empty), (.int .i64 0), (.int .i64 0), (.int .i64 0), (.string .empty), (.int .i64 0), (.int .i64 0), (.int .i64 0), (.string .empty), (.int .i64 0), (.int .i64 0), (.int .i64 0), (.string .empty)] [(0, 4, (.t 1)), (4, 4, (.t 2)), (8, 4, (.t 3)), (12, 4, (.t 4)), (16, 4, (.t 5)), (20, 4, (.t 6)), (24, 4, (.t 7)), (28, 4, (.t 8)), (32, 4, (.t 9)), (36, 4, (.t 10)), (40, 4, (.t 11)), (44, 4, (.t 12)), (48, 4, (.t 13)), (52, 4, (.t 14)), (56, 4, (.t 15)), (60, 4, (.t 16)), (64, 4, (.t 17)), (68, 4, (.t 18)), (72, 4, (.t 19)), (76, 4, (.t 20)), (80, 4, (.t 21)), (84, 4, (.t 22)), (88, 4, (.t 23)), (92, 4, (.t 24)), (96, 4, (.t 25)), (100, 4, (.t 26)), (104, 4, (.t 27))]⟩,
  ⟨some 0, none, .mov (.t 28)⟩])
  (.ret)
def c_pianolaref3_plain : C :=
 .seq (.ops [⟨some 0, none, .mov (.c (.slice none 0 0))⟩])
  (c0_pianolaref3_plain)
def f_pianolaref3_plain : F := ⟨c_pianolaref3_plain, [.t 0], some []⟩
theorem h_pianolaref3_plain : compF Tryz.prog (compAny Tryz.prog) n_pianolaref3_plain = some (f_pianolaref3_plain.body, f_pianolaref3_plain.res) := by kernel_rfl
def c0_pianolaref3_small : C :=
 .seq (.ops [⟨some 5, none, .mov (.t 0)⟩,
  ⟨some 6, none, .bin .eql (.t 5) (.c (.int .i64 0))⟩,
  ⟨some 7, none, .mov (.t 6)⟩,
  ⟨some 8, some (7, false), .mov (.t 1)⟩,
  ⟨some 9, some (7, false), .mov (.t 8)⟩,
  ⟨some 10, some (9, true), .mov (.t 0)⟩,
  ⟨some 11, some (9, true), .bin .gtr (.t 10) (.c (.int .i64 0))⟩,
  ⟨some 12, some (7, false), .pick (.t 9) (.t 11) (.c (.bool false))⟩,
  ⟨some 13, some (7, false), .mov (.t 12)⟩,
  ⟨some 14, some (13, true), .mov (.t 0)⟩,
  ⟨some 15, some (13, true), .bin .lss (.t 14) (.c (.int .i64 32))⟩,
  ⟨some 16, some (7, false), .pick (.t 13) (.t 15) (.c (.bool false))⟩,
  ⟨some 17, none, .pick (.t 7) (.c (.bool true)) (.t 16)⟩,
  ⟨some 4, none, .mov (.t 17)⟩])
  (.ret)
def c_pianolaref3_small : C :=
 .seq (.ops [⟨some 4, none, .mov (.c (.bool false))⟩])
  (c0_pianolaref3_small)
def f_pianolaref3_small : F := ⟨c_pianolaref3_small, [.t 4], some []⟩
theorem h_pianolaref3_small : compF Tryz.prog (compAny Tryz.prog) n_pianolaref3_small = some (f_pianolaref3_small.body, f_pianolaref3_small.res) := by kernel_rfl
def c0_decode_table : C :=
 .seq (.ops [⟨some 13, none, .bin .eql (.t 3) (.c (.int .u32 24))⟩,
  ⟨some 12, none, .mov (.t 13)⟩])
  (.cond (.t 12)
  (.seq (.ops [⟨some 2, none, .mov (.c (.int .i64 60))⟩])
  (.ret))
  (.seq (.ops [⟨some 15, none, .bin .eql (.t 3) (.c (.int .u32 32))⟩,
  ⟨some 14, none, .mov (.t 15)⟩])
  (.cond (.t 14)
  (.seq (.ops [⟨some 2, none, .mov (.c (.int .i64 61))⟩])
  (.ret))
  (.skip))))
def c1_decode_table : C :=
 .seq (.ops [⟨some 9, none, .bin .eql (.t 3) (.c (.int .u32 6))⟩,
  ⟨some 8, none, .mov (.t 9)⟩])
  (.cond (.t 8)
  (.seq (.ops [⟨some 2, none, .mov (.c (.int .i64 58))⟩])
  (.ret))
  (.seq (.ops [⟨some 11, none, .bin .eql (.t 3) (.c (.int .u32 8))⟩,
  ⟨some 10, none, .mov (.t 11)⟩])
  (.cond (.t 10)
  (.seq (.ops [⟨some 2, none, .mov (.c (.int .i64 59))⟩])
  (.ret))
  (c0_decode_table))))
def c2_decode_table : C :=
 .block 0
  (.seq (.ops [⟨some 5, none, .bin .eql (.t 3) (.c (.int .u32 1))⟩,
  ⟨some 4, none, .mov (.t 5)⟩])
  (.cond (.t 4)
  (.seq (.ops [⟨some 2, none, .mov (.c (.int .i64 56))⟩])
  (.ret))
  (.seq (.ops [⟨some 7, none, .bin .eql (.t 3) (.c (.int .u32 2))⟩,
  ⟨some 6, none, .mov (.t 7)⟩])
  (.cond (.t 6)
  (.seq (.ops [⟨some 2, none, .mov (.c (.int .i64 57))⟩])
  (.ret))
  (c1_decode_table)))))
def c_decode_table : C :=
 .seq (.ops [⟨some 2, none, .mov (.c (.int .i64 0))⟩])
  (.seq (.seq (.ops [⟨some 3, none, .mov (.t 0)⟩])
  (c2_decode_table))
  (.seq (.ops [⟨some 2, none, .mov (.c (.int .i64 0))⟩])
  (.ret)))
def f_decode_table : F := ⟨c_decode_table, [.t 2], some []⟩
theorem h_decode_table : compF Tryz.prog (compAny Tryz.prog) n_decode_table = some (f_decode_table.body, f_decode_table.res) := by kernel_rfl
def c0_opt_right : C :=
 .seq (.block 1
  (.seq (.ops [⟨some 9, none, .ia 5 (.t 5) (.t 7)⟩,
  ⟨some 10, none, .ldn 5 (.t 9)⟩,
  ⟨some 4, none, .new [(.int .i64 0), (.int .i64 0), (.int .i64 0), (.int .i64 0), (.int .u32 0)]⟩,
  ⟨none, none, .stn 5 (.t 4) (.t 10)⟩])
  (.seq (.ops [⟨some 11, none, .ldn 5 (.t 4)⟩,
  ⟨some 12, none, .call n_ir_Right [(.t 11)]⟩,
  ⟨some 13, none, .un .not (.t 12)⟩])
  (.cond (.t 13)
  (.seq (.ops [⟨some 2, none, .mov (.c (.bool false))⟩])
  (.ret))
  (.skip)))))
  (.ops [⟨some 14, none, .bin .add (.t 7) (.c (.int .i64 1))⟩,
  ⟨some 7, none, .mov (.t 14)⟩])
def c1_opt_right : C :=
 .seq (.ops [⟨some 8, none, .bin .lss (.t 7) (.t 6)⟩])
  (.seq (.cond (.t 8)
  (.skip)
  (.exit 0))
  (c0_opt_right))
def c_opt_right : C :=
 .seq (.ops [⟨some 2, none, .mov (.c (.bool false))⟩])
  (.seq (.seq (.ops [⟨some 5, none, .mov (.t 0)⟩,
  ⟨some 6, none, .len 1 (.t 5)⟩,
  ⟨some 7, none, .mov (.c (.int .i64 0))⟩])
  (.block 0
  (.loop c1_opt_right)))
  (.seq (.ops [⟨some 2, none, .mov (.c (.bool true))⟩])
  (.ret)))
def f_opt_right : F := ⟨c_opt_right, [.t 2], some []⟩
theorem h_opt_right : compF Tryz.prog (compAny Tryz.prog) n_opt_right = some (f_opt_right.body, f_opt_right.res) := by kernel_rfl
def c0_ir_Writes : C :=
 .cond (.t 14)
  (.seq (.ops [⟨some 21, none, .bsl 2 [(.int .i64 0), (.int .i64 0)] [(0, 1, (.c (.int .i64 32))), (1, 1, (.c (.int .i64 33)))]⟩,
  ⟨some 2, none, .mov (.t 21)⟩])
  (.ret))
  (.seq (.ops [⟨some 23, none, .fa 1 (.t 1)⟩,
  ⟨some 24, none, .ld (.t 23)⟩,
  ⟨some 25, none, .bin .eql (.t 24) (.c (.int .i64 0))⟩,
  ⟨some 22, none, .mov (.t 25)⟩])
  (.cond (.t 22)
  (.seq (.ops [⟨some 2, none, .mov (.c (.slice none 0 0))⟩])
  (.ret))
  (.skip)))
def c1_ir_Writes : C :=
 .seq (.ops [⟨some 15, none, .mov (.t 3)⟩,
  ⟨some 16, none, .bin .geq (.t 15) (.c (.int .i64 17))⟩,
  ⟨some 17, none, .mov (.t 16)⟩,
  ⟨some 18, some (17, true), .mov (.t 3)⟩,
  ⟨some 19, some (17, true), .bin .leq (.t 18) (.c (.int .i64 20))⟩,
  ⟨some 20, none, .pick (.t 17) (.t 19) (.c (.bool false))⟩,
  ⟨some 14, none, .mov (.t 20)⟩])
  (c0_ir_Writes)
def c2_ir_Writes : C :=
 .block 0
  (.seq (.ops [⟨some 7, none, .ldn 5 (.t 1)⟩,
  ⟨some 8, none, .call n_ir_Right [(.t 7)]⟩,
  ⟨some 9, none, .un .not (.t 8)⟩,
  ⟨some 10, none, .mov (.t 9)⟩,
  ⟨some 11, some (10, false), .mov (.t 3)⟩,
  ⟨some 12, some (10, false), .bin .eql (.t 11) (.c (.int .i64 0))⟩,
  ⟨some 13, none, .pick (.t 10) (.c (.bool true)) (.t 12)⟩,
  ⟨some 6, none, .mov (.t 13)⟩])
  (.cond (.t 6)
  (.seq (.ops [⟨some 2, none, .mov (.c (.slice none 0 0))⟩])
  (.ret))
  (c1_ir_Writes)))
def c_ir_Writes : C :=
 .seq (.ops [⟨some 1, none, .box (.t 0)⟩,
  ⟨some 2, none, .mov (.c (.slice none 0 0))⟩])
  (.seq (.seq (.ops [⟨some 4, none, .fa 0 (.t 1)⟩,
  ⟨some 5, none, .ld (.t 4)⟩,
  ⟨some 3, none, .mov (.t 5)⟩])
  (c2_ir_Writes))
  (.seq (.ops [⟨some 26, none, .fa 1 (.t 1)⟩,
  ⟨some 27, none, .ld (.t 26)⟩,
  ⟨some 28, none, .bsl 1 [(.int .i64 0)] [(0, 1, (.t 27))]⟩,
  ⟨some 2, none, .mov (.t 28)⟩])
  (.ret)))
def f_ir_Writes : F := ⟨c_ir_Writes, [.t 2], some []⟩
theorem h_ir_Writes : compF Tryz.prog (compAny Tryz.prog) n_ir_Writes = some (f_ir_Writes.body, f_ir_Writes.res) := by kernel_rfl
def c_slices_ContainsFunc_int_int : C :=
 .seq (.ops [⟨some 4, none, .mov (.c (.bool false))⟩])
  (.seq (.ops [⟨some 5, none, .mov (.t 0)⟩,
  ⟨some 6, none, .mov (.t 1)⟩,
  ⟨some 7, none, .call n_slices_IndexFunc_int_int [(.t 5), (.t 6)]⟩,
  ⟨some 8, none, .bin .geq (.t 7) (.c (.int .i64 0))⟩,
  ⟨some 4, none, .mov (.t 8)⟩])
  (.ret))
def f_slices_ContainsFunc_int_int : F := ⟨c_slices_ContainsFunc_int_int, [.t 4], some []⟩
theorem h_slices_ContainsFunc_int_int : compF Tryz.prog (compAny Tryz.prog) n_slices_ContainsFunc_int_int = some (f_slices_ContainsFunc_int_int.body, f_slices_ContainsFunc_int_int.res) := by kernel_rfl
def c_opt_Dead_1 : C :=
 .seq (.ops [⟨some 3, none, .mov (.c (.bool false))⟩])
  (.seq (.ops [⟨some 4, none, .mov (.t 0)⟩,
  ⟨some 5, none, .iaa 40 1 (.t 1) (.t 4)⟩,
  ⟨some 6, none, .ld (.t 5)⟩,
  ⟨some 3, none, .mov (.t 6)⟩])
  (.ret))
def f_opt_Dead_1 : F := ⟨c_opt_Dead_1, [.t 3], some []⟩
theorem h_opt_Dead_1 : compF Tryz.prog (compAny Tryz.prog) n_opt_Dead_1 = some (f_opt_Dead_1.body, f_opt_Dead_1.res) := by kernel_rfl
def c0_opt_sure : C :=
 .seq (.ops [⟨some 3, none, .fa 0 (.t 1)⟩,
  ⟨some 4, none, .ld (.t 3)⟩,
  ⟨some 5, none, .bin .neq (.t 4) (.c (.int .i64 21))⟩,
  ⟨some 6, none, .mov (.t 5)⟩,
  ⟨some 7, some (6, true), .fa 0 (.t 1)⟩,
  ⟨some 8, some (6, true), .ld (.t 7)⟩,
  ⟨some 9, some (6, true), .bin .neq (.t 8) (.c (.int .i64 22))⟩,
  ⟨some 10, none, .pick (.t 6) (.t 9) (.c (.bool false))⟩,
  ⟨some 2, none, .mov (.t 10)⟩])
  (.ret)
def c_opt_sure : C :=
 .seq (.ops [⟨some 1, none, .box (.t 0)⟩,
  ⟨some 2, none, .mov (.c (.bool false))⟩])
  (c0_opt_sure)
def f_opt_sure : F := ⟨c_opt_sure, [.t 2], some []⟩
theorem h_opt_sure : compF Tryz.prog (compAny Tryz.prog) n_opt_sure = some (f_opt_sure.body, f_opt_sure.res) := by kernel_rfl
def c0_ir_Reads : C :=
 .ops [⟨some 45, none, .fa 2 (.t 1)⟩,
  ⟨some 46, none, .ld (.t 45)⟩,
  ⟨some 47, none, .fa 3 (.t 1)⟩,
  ⟨some 48, none, .ld (.t 47)⟩,
  ⟨some 49, none, .fa 1 (.t 1)⟩,
  ⟨some 50, none, .ld (.t 49)⟩,
  ⟨some 51, none, .bsl 3 [(.int .i64 0), (.int .i64 0), (.int .i64 0)] [(0, 1, (.t 46)), (1, 1, (.t 48)), (2, 1, (.t 50))]⟩,
  ⟨some 3, none, .mov (.t 51)⟩]
def c1_ir_Reads : C :=
 .seq (.ops [⟨some 39, none, .mov (.t 4)⟩,
  ⟨some 40, none, .bin .eql (.t 39) (.c (.int .i64 21))⟩,
  ⟨some 41, none, .mov (.t 40)⟩,
  ⟨some 42, some (41, false), .mov (.t 4)⟩,
  ⟨some 43, some (41, false), .bin .eql (.t 42) (.c (.int .i64 22))⟩,
  ⟨some 44, none, .pick (.t 41) (.c (.bool true)) (.t 43)⟩,
  ⟨some 38, none, .mov (.t 44)⟩])
  (.cond (.t 38)
  (c0_ir_Reads)
  (.ops [⟨some 7, none, .fa 2 (.t 1)⟩,
  ⟨some 8, none, .ld (.t 7)⟩,
  ⟨some 9, none, .fa 3 (.t 1)⟩,
  ⟨some 10, none, .ld (.t 9)⟩,
  ⟨some 11, none, .bsl 2 [(.int .i64 0), (.int .i64 0)] [(0, 1, (.t 8)), (1, 1, (.t 10))]⟩,
  ⟨some 3, none, .mov (.t 11)⟩]))
def c2_ir_Reads : C :=
 .seq (.ops [⟨some 25, none, .mov (.t 4)⟩,
  ⟨some 26, none, .bin .eql (.t 25) (.c (.int .i64 2))⟩,
  ⟨some 27, none, .mov (.t 26)⟩,
  ⟨some 28, some (27, false), .mov (.t 4)⟩,
  ⟨some 29, some (27, false), .bin .eql (.t 28) (.c (.int .i64 15))⟩,
  ⟨some 30, none, .pick (.t 27) (.c (.bool true)) (.t 29)⟩,
  ⟨some 31, none, .mov (.t 30)⟩,
  ⟨some 32, some (31, false), .mov (.t 4)⟩,
  ⟨some 33, some (31, false), .bin .eql (.t 32) (.c (.int .i64 16))⟩,
  ⟨some 34, none, .pick (.t 31) (.c (.bool true)) (.t 33)⟩,
  ⟨some 24, none, .mov (.t 34)⟩])
  (.cond (.t 24)
  (.ops [⟨some 35, none, .fa 2 (.t 1)⟩,
  ⟨some 36, none, .ld (.t 35)⟩,
  ⟨some 37, none, .bsl 1 [(.int .i64 0)] [(0, 1, (.t 36))]⟩,
  ⟨some 3, none, .mov (.t 37)⟩])
  (c1_ir_Reads))
def c3_ir_Reads : C :=
 .block 0
  (.seq (.ops [⟨some 13, none, .ldn 5 (.t 1)⟩,
  ⟨some 14, none, .call n_ir_Right [(.t 13)]⟩,
  ⟨some 15, none, .un .not (.t 14)⟩,
  ⟨some 16, none, .mov (.t 15)⟩,
  ⟨some 17, some (16, false), .mov (.t 4)⟩,
  ⟨some 18, some (16, false), .bin .eql (.t 17) (.c (.int .i64 0))⟩,
  ⟨some 19, none, .pick (.t 16) (.c (.bool true)) (.t 18)⟩,
  ⟨some 20, none, .mov (.t 19)⟩,
  ⟨some 21, some (20, false), .mov (.t 4)⟩,
  ⟨some 22, some (20, false), .bin .eql (.t 21) (.c (.int .i64 1))⟩,
  ⟨some 23, none, .pick (.t 20) (.c (.bool true)) (.t 22)⟩,
  ⟨some 12, none, .mov (.t 23)⟩])
  (.cond (.t 12)
  (.skip)
  (c2_ir_Reads)))
def c4_ir_Reads : C :=
 .seq (.seq (.ops [⟨some 5, none, .fa 0 (.t 1)⟩,
  ⟨some 6, none, .ld (.t 5)⟩,
  ⟨some 4, none, .mov (.t 6)⟩])
  (c3_ir_Reads))
  (.seq (.ops [⟨some 52, none, .mov (.t 3)⟩,
  ⟨some 53, none, .call n_slices_Sort_int_int [(.t 52)]⟩])
  (.seq (.ops [⟨some 54, none, .mov (.t 3)⟩,
  ⟨some 55, none, .call n_slices_Compact_int_int [(.t 54)]⟩,
  ⟨some 2, none, .mov (.t 55)⟩])
  (.ret)))
def c_ir_Reads : C :=
 .seq (.ops [⟨some 1, none, .box (.t 0)⟩,
  ⟨some 2, none, .mov (.c (.slice none 0 0))⟩])
  (.seq (.ops [⟨some 3, none, .mov (.c (.slice none 0 0))⟩])
  (c4_ir_Reads))
def f_ir_Reads : F := ⟨c_ir_Reads, [.t 2], some []⟩
theorem h_ir_Reads : compF Tryz.prog (compAny Tryz.prog) n_ir_Reads = some (f_ir_Reads.body, f_ir_Reads.res) := by kernel_rfl
def c0_slices_Reverse_ir_Op_ir_Op : C :=
 .seq (.block 1
  (.any 0 [.op 4 ⟨some 18, none, .mov (.t 0)⟩,
  .op 5 ⟨some 19, none, .mov (.t 3)⟩,
  .op 6 ⟨some 20, none, .ia 5 (.t 18) (.t 19)⟩,
  .op 7 ⟨some 21, none, .ldn 5 (.t 20)⟩,
  .op 8 ⟨some 22, none, .mov (.t 0)⟩,
  .op 9 ⟨some 23, none, .mov (.t 2)⟩,
  .op 10 ⟨some 24, none, .ia 5 (.t 22) (.t 23)⟩,
  .op 11 ⟨some 25, none, .ldn 5 (.t 24)⟩,
  .op 0 ⟨some 14, none, .mov (.t 0)⟩,
  .op 1 ⟨some 15, none, .mov (.t 2)⟩,
  .op 12 ⟨some 26, none, .ia 5 (.t 14) (.t 15)⟩,
  .op 13 ⟨none, none, .stn 5 (.t 26) (.t 21)⟩,
  .op 2 ⟨some 16, none, .mov (.t 0)⟩,
  .op 3 ⟨some 17, none, .mov (.t 3)⟩,
  .op 14 ⟨some 27, none, .ia 5 (.t 16) (.t 17)⟩,
  .op 15 ⟨none, none, .stn 5 (.t 27) (.t 25)⟩]))
  (.ops [⟨some 10, none, .mov (.t 2)⟩,
  ⟨some 11, none, .bin .add (.t 10) (.c (.int .i64 1))⟩,
  ⟨some 12, none, .mov (.t 3)⟩,
  ⟨some 13, none, .bin .sub (.t 12) (.c (.int .i64 1))⟩,
  ⟨some 2, none, .mov (.t 11)⟩,
  ⟨some 3, none, .mov (.t 13)⟩])
def c1_slices_Reverse_ir_Op_ir_Op : C :=
 .seq (.seq (.ops [⟨some 7, none, .mov (.t 2)⟩,
  ⟨some 8, none, .mov (.t 3)⟩,
  ⟨some 9, none, .bin .lss (.t 7) (.t 8)⟩])
  (.cond (.t 9)
  (.skip)
  (.exit 0)))
  (c0_slices_Reverse_ir_Op_ir_Op)
def c_slices_Reverse_ir_Op_ir_Op : C :=
 .seq (.ops [⟨some 4, none, .mov (.t 0)⟩,
  ⟨some 5, none, .len 1 (.t 4)⟩,
  ⟨some 6, none, .bin .sub (.t 5) (.c (.int .i64 1))⟩,
  ⟨some 2, none, .mov (.c (.int .i64 0))⟩,
  ⟨some 3, none, .mov (.t 6)⟩])
  (.block 0
  (.loop c1_slices_Reverse_ir_Op_ir_Op))
def f_slices_Reverse_ir_Op_ir_Op : F := ⟨c_slices_Reverse_ir_Op_ir_Op, [], some []⟩
theorem h_slices_Reverse_ir_Op_ir_Op : compF Tryz.prog (compAny Tryz.prog) n_slices_Reverse_ir_Op_ir_Op = some (f_slices_Reverse_ir_Op_ir_Op.body, f_slices_Reverse_ir_Op_ir_Op.res) := by kernel_rfl
def c0_opt_facts_fold : C :=
 .seq (.any 0 [.op 0 ⟨some 23, none, .fa 1 (.t 3)⟩,
  .op 1 ⟨some 24, none, .ld (.t 23)⟩,
  .op 2 ⟨some 25, none, .fa 2 (.t 3)⟩,
  .op 3 ⟨some 26, none, .ld (.t 25)⟩,
  .op 5 ⟨some 28, none, .mov (.t 0)⟩,
  .op 6 ⟨some 29, none, .fa 3 (.t 3)⟩,
  .op 7 ⟨some 30, none, .ld (.t 29)⟩,
  .op 8 ⟨some 31, none, .nilc (.t 28)⟩,
  .op 9 ⟨some 32, none, .fa 40 (.t 31)⟩,
  .op 10 ⟨some 33, none, .iaa 40 1 (.t 32) (.t 30)⟩,
  .op 11 ⟨some 34, none, .ld (.t 33)⟩,
  .op 13 ⟨some 36, none, .fa 0 (.t 3)⟩,
  .op 14 ⟨some 37, none, .ld (.t 36)⟩,
  .op 4 ⟨some 27, none, .build [(.int .i64 0), (.int .i64 0), (.int .i64 0), (.int .i64 0), (.int .u32 0)] [(0, 1, (.c (.int .i64 2))), (1, 1, (.t 24)), (2, 1, (.t 26))]⟩,
  .op 17 ⟨none, none, .stn 5 (.t 4) (.t 27)⟩,
  .re 7 ⟨some 30, none, .ld (.t 29)⟩,
  .re 11 ⟨some 34, none, .ld (.t 33)⟩,
  .re 14 ⟨some 37, none, .ld (.t 36)⟩,
  .op 12 ⟨some 35, none, .bin .eql (.t 34) (.c (.int .u32 0))⟩,
  .op 15 ⟨some 38, none, .bin .eql (.t 37) (.c (.int .i64 21))⟩,
  .op 16 ⟨some 39, none, .eqb false (.t 35) (.t 38)⟩,
  .op 18 ⟨some 5, none, .mov (.t 39)⟩])
  (.ret)
def c1_opt_facts_fold : C :=
 .seq (.ops [⟨some 41, none, .ldn 5 (.t 3)⟩,
  ⟨some 42, none, .call n_opt_sure [(.t 41)]⟩,
  ⟨some 43, none, .un .not (.t 42)⟩,
  ⟨some 44, none, .mov (.t 43)⟩,
  ⟨some 45, some (44, false), .mov (.t 6)⟩,
  ⟨some 46, some (44, false), .len 1 (.t 45)⟩,
  ⟨some 47, some (44, false), .bin .neq (.t 46) (.c (.int .i64 1))⟩,
  ⟨some 48, none, .pick (.t 44) (.c (.bool true)) (.t 47)⟩,
  ⟨some 49, none, .mov (.t 48)⟩,
  ⟨some 50, some (49, false), .mov (.t 0)⟩,
  ⟨some 51, some (49, false), .ldn 5 (.t 3)⟩,
  ⟨some 52, some (49, false), .call n_ir_Reads [(.t 51)]⟩,
  ⟨some 53, some (49, false), .call n_opt_facts_knows [(.t 50), (.t 52)]⟩,
  ⟨some 54, some (49, false), .un .not (.t 53)⟩,
  ⟨some 55, none, .pick (.t 49) (.c (.bool true)) (.t 54)⟩,
  ⟨some 40, none, .mov (.t 55)⟩])
  (.cond (.t 40)
  (.seq (.ops [⟨some 56, none, .ldn 5 (.t 3)⟩,
  ⟨none, none, .stn 5 (.t 4) (.t 56)⟩,
  ⟨some 5, none, .mov (.c (.bool true))⟩])
  (.ret))
  (.skip))
def c2_opt_facts_fold : C :=
 .seq (.any 0 [.op 0 ⟨some 64, none, .fa 1 (.t 3)⟩,
  .op 1 ⟨some 65, none, .ld (.t 64)⟩,
  .op 2 ⟨some 66, none, .fa 1 (.t 3)⟩,
  .op 3 ⟨some 67, none, .ld (.t 66)⟩,
  .op 4 ⟨some 68, none, .iaa 40 1 (.t 7) (.t 67)⟩,
  .op 5 ⟨some 69, none, .ld (.t 68)⟩,
  .op 6 ⟨some 70, none, .build [(.int .i64 0), (.int .i64 0), (.int .i64 0), (.int .i64 0), (.int .u32 0)] [(0, 1, (.c (.int .i64 1))), (1, 1, (.t 65)), (4, 1, (.t 69))]⟩,
  .op 7 ⟨none, none, .stn 5 (.t 4) (.t 70)⟩,
  .op 8 ⟨some 5, none, .mov (.c (.bool true))⟩])
  (.ret)
def c3_opt_facts_fold : C :=
 .seq (.ops [⟨some 57, none, .mov (.t 0)⟩,
  ⟨some 58, none, .nilc (.t 57)⟩,
  ⟨some 59, none, .fa 40 (.t 58)⟩,
  ⟨some 60, none, .ldn 40 (.t 59)⟩,
  ⟨some 7, none, .new (List.replicate 40 (.int .u32 0))⟩,
  ⟨none, none, .stn 40 (.t 7) (.t 60)⟩])
  (.seq (.ops [⟨some 61, none, .ldn 5 (.t 3)⟩,
  ⟨some 62, none, .bsl 1 [(.int .i64 0), (.int .i64 0), (.int .i64 0), (.int .i64 0), (.int .u32 0)] [(0, 5, (.t 61))]⟩,
  ⟨some 63, none, .call n_ir_Run [(.t 7), (.t 62)]⟩])
  (c2_opt_facts_fold))
def c4_opt_facts_fold : C :=
 .seq (.block 0
  (.seq (.any 0 [.op 0 ⟨some 11, none, .ldn 5 (.t 3)⟩,
  .op 1 ⟨some 12, none, .call n_opt_sure [(.t 11)]⟩,
  .op 2 ⟨some 13, none, .un .not (.t 12)⟩,
  .op 3 ⟨some 14, none, .mov (.t 13)⟩,
  .op 4 ⟨some 15, some (14, true), .mov (.t 0)⟩,
  .op 5 ⟨some 16, some (14, true), .fa 3 (.t 3)⟩,
  .op 6 ⟨some 17, some (14, true), .ld (.t 16)⟩,
  .op 7 ⟨some 18, some (14, true), .nilc (.t 15)⟩,
  .op 8 ⟨some 19, some (14, true), .fa 0 (.t 18)⟩,
  .op 9 ⟨some 20, some (14, true), .iaa 40 1 (.t 19) (.t 17)⟩,
  .op 10 ⟨some 21, some (14, true), .ld (.t 20)⟩,
  .op 11 ⟨some 22, none, .pick (.t 14) (.t 21) (.c (.bool false))⟩,
  .op 12 ⟨some 10, none, .mov (.t 22)⟩])
  (.cond (.t 10)
  (c0_opt_facts_fold)
  (c1_opt_facts_fold))))
  (c3_opt_facts_fold)
def c_opt_facts_fold : C :=
 .seq (.ops [⟨some 3, none, .box (.t 1)⟩,
  ⟨some 4, none, .new [(.int .i64 0), (.int .i64 0), (.int .i64 0), (.int .i64 0), (.int .u32 0)]⟩,
  ⟨some 5, none, .mov (.c (.bool false))⟩])
  (.seq (.ops [⟨some 8, none, .ldn 5 (.t 3)⟩,
  ⟨some 9, none, .call n_ir_Writes [(.t 8)]⟩,
  ⟨some 6, none, .mov (.t 9)⟩])
  (c4_opt_facts_fold))
def f_opt_facts_fold : F := ⟨c_opt_facts_fold, [.ldn 5 4, .t 5], some []⟩
theorem h_opt_facts_fold : compF Tryz.prog (compAny Tryz.prog) n_opt_facts_fold = some (f_opt_facts_fold.body, f_opt_facts_fold.res) := by kernel_rfl
end Go.Proofs.YtmgoleiafiffoaaGreat.Cd

set_option maxRecDepth 100000
set_option linter.defProp false
namespace Go.Proofs.YtmgoleiafiffoaaGreat.Cd
open Go Go.Dx
def c0_opt_facts_done : C :=
 .any 1 [.op 3 ⟨some 15, none, .ldn 5 (.t 3)⟩,
  .op 0 ⟨some 12, none, .mov (.t 0)⟩,
  .op 1 ⟨some 13, none, .nilc (.t 12)⟩,
  .op 2 ⟨some 14, none, .fa 40 (.t 13)⟩,
  .al 4 0 ⟨some 16, none, .bsl 1 [(.int .i64 0), (.int .i64 0), (.int .i64 0), (.int .i64 0), (.int .u32 0)] [(0, 5, (.t 15))]⟩,
  .op 5 ⟨some 17, none, .call n_ir_Run [(.t 14), (.t 16)]⟩]
def c1_opt_facts_done : C :=
 .seq (.block 1
  (.seq (.ops [⟨some 23, none, .ia 1 (.t 19) (.t 21)⟩,
  ⟨some 24, none, .ld (.t 23)⟩,
  ⟨some 6, none, .mov (.t 24)⟩])
  (.ops [⟨some 25, none, .mov (.t 0)⟩,
  ⟨some 26, none, .mov (.t 6)⟩,
  ⟨some 27, none, .mov (.t 4)⟩,
  ⟨some 28, none, .nilc (.t 25)⟩,
  ⟨some 29, none, .fa 0 (.t 28)⟩,
  ⟨some 30, none, .iaa 40 1 (.t 29) (.t 26)⟩,
  ⟨none, none, .st (.t 30) (.t 27)⟩])))
  (.ops [⟨some 31, none, .bin .add (.t 21) (.c (.int .i64 1))⟩,
  ⟨some 21, none, .mov (.t 31)⟩])
def c2_opt_facts_done : C :=
 .seq (.ops [⟨some 22, none, .bin .lss (.t 21) (.t 20)⟩])
  (.seq (.cond (.t 22)
  (.skip)
  (.exit 0))
  (c1_opt_facts_done))
def c3_opt_facts_done : C :=
 .seq (.ops [⟨some 7, none, .mov (.t 0)⟩,
  ⟨some 8, none, .ldn 5 (.t 3)⟩,
  ⟨some 9, none, .call n_ir_Reads [(.t 8)]⟩,
  ⟨some 10, none, .call n_opt_facts_knows [(.t 7), (.t 9)]⟩,
  ⟨some 4, none, .mov (.t 10)⟩])
  (.seq (.seq (.ops [⟨some 11, none, .mov (.t 4)⟩])
  (.cond (.t 11)
  (c0_opt_facts_done)
  (.skip)))
  (.seq (.ops [⟨some 18, none, .ldn 5 (.t 3)⟩,
  ⟨some 19, none, .call n_ir_Writes [(.t 18)]⟩,
  ⟨some 20, none, .len 1 (.t 19)⟩,
  ⟨some 21, none, .mov (.c (.int .i64 0))⟩])
  (.block 0
  (.loop c2_opt_facts_done))))
def c_opt_facts_done : C :=
 .seq (.ops [⟨some 3, none, .box (.t 1)⟩])
  (c3_opt_facts_done)
def f_opt_facts_done : F := ⟨c_opt_facts_done, [], some []⟩
theorem h_opt_facts_done : compF Tryz.prog (compAny Tryz.prog) n_opt_facts_done = some (f_opt_facts_done.body, f_opt_facts_done.res) := by kernel_rfl
def c0_decode_Right : C :=
 .seq (.ops [⟨some 19, none, .mov (.t 4)⟩,
  ⟨some 20, none, .bin .lss (.t 19) (.c (.int .i64 0))⟩,
  ⟨some 21, none, .mov (.t 20)⟩,
  ⟨some 22, some (21, false), .mov (.t 4)⟩,
  ⟨some 23, some (21, false), .bin .gtr (.t 22) (.c (.int .i64 31))⟩,
  ⟨some 24, none, .pick (.t 21) (.c (.bool true)) (.t 23)⟩])
  (.cond (.t 24)
  (.seq (.ops [⟨some 2, none, .mov (.c (.bool false))⟩])
  (.ret))
  (.skip))
def c1_decode_Right : C :=
 .seq (.ops [⟨some 16, none, .bin .lss (.t 15) (.t 14)⟩])
  (.seq (.cond (.t 16)
  (.skip)
  (.exit 0))
  (.seq (.block 1
  (.seq (.ops [⟨some 17, none, .ia 1 (.t 13) (.t 15)⟩,
  ⟨some 18, none, .ld (.t 17)⟩,
  ⟨some 4, none, .mov (.t 18)⟩])
  (c0_decode_Right)))
  (.ops [⟨some 25, none, .bin .add (.t 15) (.c (.int .i64 1))⟩,
  ⟨some 15, none, .mov (.t 25)⟩])))
def c2_decode_Right : C :=
 .seq (.any 0 [.op 0 ⟨some 26, none, .fa 0 (.t 1)⟩,
  .op 1 ⟨some 27, none, .ld (.t 26)⟩,
  .op 2 ⟨some 28, none, .bin .gtr (.t 27) (.c (.int .i64 0))⟩,
  .op 3 ⟨some 29, none, .mov (.t 28)⟩,
  .op 4 ⟨some 30, some (29, true), .fa 0 (.t 1)⟩,
  .op 5 ⟨some 31, some (29, true), .ld (.t 30)⟩,
  .op 6 ⟨some 32, some (29, true), .bin .lss (.t 31) (.c (.int .i64 78))⟩,
  .op 7 ⟨some 33, none, .pick (.t 29) (.t 32) (.c (.bool false))⟩,
  .op 8 ⟨some 34, none, .mov (.t 33)⟩,
  .op 9 ⟨some 35, some (34, true), .fa 5 (.t 1)⟩,
  .op 10 ⟨some 36, some (34, true), .ld (.t 35)⟩,
  .op 11 ⟨some 37, some (34, true), .bin .leq (.t 36) (.c (.int .u32 67108863))⟩,
  .op 12 ⟨some 38, none, .pick (.t 34) (.t 37) (.c (.bool false))⟩,
  .op 13 ⟨some 39, none, .mov (.t 38)⟩,
  .op 14 ⟨some 40, some (39, true), .fa 0 (.t 1)⟩,
  .op 15 ⟨some 41, some (39, true), .ld (.t 40)⟩,
  .op 16 ⟨some 42, some (39, true), .ldn 6 (.t 1)⟩,
  .op 19 ⟨some 45, some (39, true), .ldn 6 (.t 1)⟩,
  .op 17 ⟨some 43, some (39, true), .call n_decode_put [(.t 42)]⟩,
  .re 15 ⟨some 41, some (39, true), .ld (.t 40)⟩,
  .re 19 ⟨some 45, some (39, true), .ldn 6 (.t 1)⟩,
  .op 18 ⟨some 44, some (39, true), .call n_decode_with [(.t 41), (.t 43)]⟩,
  .re 19 ⟨some 45, some (39, true), .ldn 6 (.t 1)⟩,
  .op 20 ⟨some 46, some (39, true), .eqt false (.agg [(0, 1, false, (.int .i64)), (1, 1, false, (.int .i64)), (2, 1, false, (.int .i64)), (3, 1, false, (.int .i64)), (4, 1, false, (.int .i64)), (5, 1, false, (.int .u32))]) (.t 44) (.t 45)⟩,
  .op 21 ⟨some 47, none, .pick (.t 39) (.t 46) (.c (.bool false))⟩,
  .op 22 ⟨some 2, none, .mov (.t 47)⟩])
  (.ret)
def c3_decode_Right : C :=
 .seq (.seq (.ops [⟨some 5, none, .fa 1 (.t 1)⟩,
  ⟨some 6, none, .ld (.t 5)⟩,
  ⟨some 7, none, .fa 2 (.t 1)⟩,
  ⟨some 8, none, .ld (.t 7)⟩,
  ⟨some 9, none, .fa 3 (.t 1)⟩,
  ⟨some 10, none, .ld (.t 9)⟩,
  ⟨some 11, none, .fa 4 (.t 1)⟩,
  ⟨some 12, none, .ld (.t 11)⟩,
  ⟨some 13, none, .bsl 4 [(.int .i64 0), (.int .i64 0), (.int .i64 0), (.int .i64 0)] [(0, 1, (.t 6)), (1, 1, (.t 8)), (2, 1, (.t 10)), (3, 1, (.t 12))]⟩,
  ⟨some 14, none, .len 1 (.t 13)⟩,
  ⟨some 15, none, .mov (.c (.int .i64 0))⟩])
  (.block 0
  (.loop c1_decode_Right)))
  (c2_decode_Right)
def c_decode_Right : C :=
 .seq (.ops [⟨some 1, none, .box (.t 0)⟩,
  ⟨some 2, none, .mov (.c (.bool false))⟩])
  (c3_decode_Right)
def f_decode_Right : F := ⟨c_decode_Right, [.t 2], some []⟩
theorem h_decode_Right : compF Tryz.prog (compAny Tryz.prog) n_decode_Right = some (f_decode_Right.body, f_decode_Right.res) := by kernel_rfl
def c0_alu_Is : C :=
 .seq (.ops [⟨some 3, none, .mov (.t 0)⟩,
  ⟨some 4, none, .bin .geq (.t 3) (.c (.int .i64 1))⟩,
  ⟨some 5, none, .mov (.t 4)⟩,
  ⟨some 6, some (5, true), .mov (.t 0)⟩,
  ⟨some 7, some (5, true), .bin .leq (.t 6) (.c (.int .i64 6))⟩,
  ⟨some 8, none, .pick (.t 5) (.t 7) (.c (.bool false))⟩,
  ⟨some 9, none, .mov (.t 8)⟩,
  ⟨some 10, some (9, false), .mov (.t 0)⟩,
  ⟨some 11, some (9, false), .bin .geq (.t 10) (.c (.int .i64 22))⟩,
  ⟨some 12, some (9, false), .mov (.t 11)⟩,
  ⟨some 13, some (12, true), .mov (.t 0)⟩,
  ⟨some 14, some (12, true), .bin .leq (.t 13) (.c (.int .i64 31))⟩,
  ⟨some 15, some (9, false), .pick (.t 12) (.t 14) (.c (.bool false))⟩,
  ⟨some 16, none, .pick (.t 9) (.c (.bool true)) (.t 15)⟩,
  ⟨some 17, none, .mov (.t 16)⟩,
  ⟨some 18, some (17, false), .mov (.t 0)⟩,
  ⟨some 19, some (17, false), .bin .geq (.t 18) (.c (.int .i64 46))⟩,
  ⟨some 20, some (17, false), .mov (.t 19)⟩,
  ⟨some 21, some (20, true), .mov (.t 0)⟩,
  ⟨some 22, some (20, true), .bin .leq (.t 21) (.c (.int .i64 53))⟩,
  ⟨some 23, some (17, false), .pick (.t 20) (.t 22) (.c (.bool false))⟩,
  ⟨some 24, none, .pick (.t 17) (.c (.bool true)) (.t 23)⟩,
  ⟨some 25, none, .mov (.t 24)⟩,
  ⟨some 26, some (25, false), .mov (.t 0)⟩,
  ⟨some 27, some (25, false), .bin .geq (.t 26) (.c (.int .i64 63))⟩,
  ⟨some 28, some (25, false), .mov (.t 27)⟩,
  ⟨some 29, some (28, true), .mov (.t 0)⟩,
  ⟨some 30, some (28, true), .bin .leq (.t 29) (.c (.int .i64 65))⟩,
  ⟨some 31, some (25, false), .pick (.t 28) (.t 30) (.c (.bool false))⟩,
  ⟨some 32, none, .pick (.t 25) (.c (.bool true)) (.t 31)⟩,
  ⟨some 2, none, .mov (.t 32)⟩])
  (.ret)
def c_alu_Is : C :=
 .seq (.ops [⟨some 2, none, .mov (.c (.bool false))⟩])
  (c0_alu_Is)
def f_alu_Is : F := ⟨c_alu_Is, [.t 2], some []⟩
theorem h_alu_Is : compF Tryz.prog (compAny Tryz.prog) n_alu_Is = some (f_alu_Is.body, f_alu_Is.res) := by kernel_rfl
def c0_word_Sign : C :=
 .cond (.t 5)
  (.seq (.ops [⟨some 4, none, .mov (.c (.int .u32 0))⟩])
  (.ret))
  (.seq (.ops [⟨some 9, none, .mov (.t 1)⟩,
  ⟨some 10, none, .bin .gtr (.t 9) (.c (.int .i64 31))⟩,
  ⟨some 8, none, .mov (.t 10)⟩])
  (.cond (.t 8)
  (.seq (.ops [⟨some 11, none, .mov (.t 0)⟩,
  ⟨some 4, none, .mov (.t 11)⟩])
  (.ret))
  (.skip)))
def c1_word_Sign : C :=
 .seq (.ops [⟨some 12, none, .mov (.t 0)⟩,
  ⟨some 13, none, .mov (.t 1)⟩,
  ⟨some 14, none, .bin .sub (.c (.int .i64 32)) (.t 13)⟩,
  ⟨some 15, none, .bin .shl (.t 12) (.t 14)⟩,
  ⟨some 16, none, .mov (.t 1)⟩,
  ⟨some 17, none, .bin .sub (.c (.int .i64 32)) (.t 16)⟩,
  ⟨some 18, none, .call n_word_Sar [(.t 15), (.t 17)]⟩,
  ⟨some 4, none, .mov (.t 18)⟩])
  (.ret)
def c_word_Sign : C :=
 .seq (.ops [⟨some 4, none, .mov (.c (.int .u32 0))⟩])
  (.seq (.block 0
  (.seq (.ops [⟨some 6, none, .mov (.t 1)⟩,
  ⟨some 7, none, .bin .lss (.t 6) (.c (.int .i64 1))⟩,
  ⟨some 5, none, .mov (.t 7)⟩])
  (c0_word_Sign)))
  (c1_word_Sign))
def f_word_Sign : F := ⟨c_word_Sign, [.t 4], some []⟩
theorem h_word_Sign : compF Tryz.prog (compAny Tryz.prog) n_word_Sign = some (f_word_Sign.body, f_word_Sign.res) := by kernel_rfl
def c0_ir_Right : C :=
 .seq (.ops [⟨some 17, none, .mov (.t 4)⟩,
  ⟨some 18, none, .bin .lss (.t 17) (.c (.int .i64 0))⟩,
  ⟨some 19, none, .mov (.t 18)⟩,
  ⟨some 20, some (19, false), .mov (.t 4)⟩,
  ⟨some 21, some (19, false), .bin .geq (.t 20) (.c (.int .i64 40))⟩,
  ⟨some 22, none, .pick (.t 19) (.c (.bool true)) (.t 21)⟩])
  (.cond (.t 22)
  (.seq (.ops [⟨some 2, none, .mov (.c (.bool false))⟩])
  (.ret))
  (.skip))
def c1_ir_Right : C :=
 .seq (.ops [⟨some 14, none, .bin .lss (.t 13) (.t 12)⟩])
  (.seq (.cond (.t 14)
  (.skip)
  (.exit 0))
  (.seq (.block 1
  (.seq (.ops [⟨some 15, none, .ia 1 (.t 11) (.t 13)⟩,
  ⟨some 16, none, .ld (.t 15)⟩,
  ⟨some 4, none, .mov (.t 16)⟩])
  (c0_ir_Right)))
  (.ops [⟨some 23, none, .bin .add (.t 13) (.c (.int .i64 1))⟩,
  ⟨some 13, none, .mov (.t 23)⟩])))
def c2_ir_Right : C :=
 .seq (.ops [⟨some 24, none, .fa 0 (.t 1)⟩,
  ⟨some 25, none, .ld (.t 24)⟩,
  ⟨some 26, none, .bin .geq (.t 25) (.c (.int .i64 0))⟩,
  ⟨some 27, none, .mov (.t 26)⟩,
  ⟨some 28, some (27, true), .fa 0 (.t 1)⟩,
  ⟨some 29, some (27, true), .ld (.t 28)⟩,
  ⟨some 30, some (27, true), .bin .leq (.t 29) (.c (.int .i64 22))⟩,
  ⟨some 31, none, .pick (.t 27) (.t 30) (.c (.bool false))⟩,
  ⟨some 2, none, .mov (.t 31)⟩])
  (.ret)
def c3_ir_Right : C :=
 .seq (.seq (.ops [⟨some 5, none, .fa 1 (.t 1)⟩,
  ⟨some 6, none, .ld (.t 5)⟩,
  ⟨some 7, none, .fa 2 (.t 1)⟩,
  ⟨some 8, none, .ld (.t 7)⟩,
  ⟨some 9, none, .fa 3 (.t 1)⟩,
  ⟨some 10, none, .ld (.t 9)⟩,
  ⟨some 11, none, .bsl 3 [(.int .i64 0), (.int .i64 0), (.int .i64 0)] [(0, 1, (.t 6)), (1, 1, (.t 8)), (2, 1, (.t 10))]⟩,
  ⟨some 12, none, .len 1 (.t 11)⟩,
  ⟨some 13, none, .mov (.c (.int .i64 0))⟩])
  (.block 0
  (.loop c1_ir_Right)))
  (c2_ir_Right)
def c_ir_Right : C :=
 .seq (.ops [⟨some 1, none, .box (.t 0)⟩,
  ⟨some 2, none, .mov (.c (.bool false))⟩])
  (c3_ir_Right)
def f_ir_Right : F := ⟨c_ir_Right, [.t 2], some []⟩
theorem h_ir_Right : compF Tryz.prog (compAny Tryz.prog) n_ir_Right = some (f_ir_Right.body, f_ir_Right.res) := by kernel_rfl
def c0_slices_IndexFunc_int_int : C :=
 .seq (.ops [⟨some 11, none, .mov (.t 1)⟩,
  ⟨some 12, none, .mov (.t 0)⟩,
  ⟨some 13, none, .mov (.t 5)⟩,
  ⟨some 14, none, .ia 1 (.t 12) (.t 13)⟩,
  ⟨some 15, none, .ld (.t 14)⟩,
  ⟨some 16, none, .callv (.t 11) [(.t 15)]⟩])
  (.cond (.t 16)
  (.seq (.ops [⟨some 17, none, .mov (.t 5)⟩,
  ⟨some 4, none, .mov (.t 17)⟩])
  (.ret))
  (.skip))
def c1_slices_IndexFunc_int_int : C :=
 .seq (.ops [⟨some 9, none, .bin .lss (.t 8) (.t 7)⟩])
  (.seq (.cond (.t 9)
  (.skip)
  (.exit 0))
  (.seq (.block 1
  (.seq (.ops [⟨some 10, none, .mov (.t 8)⟩,
  ⟨some 5, none, .mov (.t 10)⟩])
  (c0_slices_IndexFunc_int_int)))
  (.ops [⟨some 18, none, .bin .add (.t 8) (.c (.int .i64 1))⟩,
  ⟨some 8, none, .mov (.t 18)⟩])))
def c_slices_IndexFunc_int_int : C :=
 .seq (.ops [⟨some 4, none, .mov (.c (.int .i64 0))⟩])
  (.seq (.seq (.ops [⟨some 6, none, .mov (.t 0)⟩,
  ⟨some 7, none, .len 1 (.t 6)⟩,
  ⟨some 8, none, .mov (.c (.int .i64 0))⟩])
  (.block 0
  (.loop c1_slices_IndexFunc_int_int)))
  (.seq (.ops [⟨some 4, none, .mov (.c (.int .i64 (-1)))⟩])
  (.ret)))
def f_slices_IndexFunc_int_int : F := ⟨c_slices_IndexFunc_int_int, [.t 4], some []⟩
theorem h_slices_IndexFunc_int_int : compF Tryz.prog (compAny Tryz.prog) n_slices_IndexFunc_int_int = some (f_slices_IndexFunc_int_int.body, f_slices_IndexFunc_int_int.res) := by kernel_rfl
def c_slices_Sort_int_int : C :=
 .seq (.ops [⟨some 3, none, .mov (.t 0)⟩,
  ⟨some 4, none, .len 1 (.t 3)⟩,
  ⟨some 2, none, .mov (.t 4)⟩])
  (.ops [⟨some 5, none, .mov (.t 0)⟩,
  ⟨some 6, none, .mov (.t 2)⟩,
  ⟨some 7, none, .mov (.t 2)⟩,
  ⟨some 8, none, .conv .u64 (.t 7)⟩,
  ⟨some 9, none, .call n_math_bits_Len [(.t 8)]⟩,
  ⟨some 10, none, .call n_slices_pdqsortOrdered_int [(.t 5), (.c (.int .i64 0)), (.t 6), (.t 9)]⟩])
def f_slices_Sort_int_int : F := ⟨c_slices_Sort_int_int, [], some []⟩
theorem h_slices_Sort_int_int : compF Tryz.prog (compAny Tryz.prog) n_slices_Sort_int_int = some (f_slices_Sort_int_int.body, f_slices_Sort_int_int.res) := by kernel_rfl
def c0_slices_Compact_int_int : C :=
 .seq (.ops [⟨some 45, none, .mov (.t 0)⟩,
  ⟨some 46, none, .mov (.t 3)⟩,
  ⟨some 47, none, .mov (.t 4)⟩,
  ⟨some 48, none, .mov (.t 5)⟩,
  ⟨some 49, none, .ia 1 (.t 47) (.t 48)⟩,
  ⟨some 50, none, .ld (.t 49)⟩,
  ⟨some 51, none, .ia 1 (.t 45) (.t 46)⟩,
  ⟨none, none, .st (.t 51) (.t 50)⟩])
  (.ops [⟨some 52, none, .mov (.t 3)⟩,
  ⟨some 53, none, .bin .add (.t 52) (.c (.int .i64 1))⟩,
  ⟨some 3, none, .mov (.t 53)⟩])
def c1_slices_Compact_int_int : C :=
 .seq (.block 3
  (.seq (.any 0 [.op 0 ⟨some 35, none, .mov (.t 4)⟩,
  .op 1 ⟨some 36, none, .mov (.t 5)⟩,
  .op 2 ⟨some 37, none, .ia 1 (.t 35) (.t 36)⟩,
  .op 3 ⟨some 38, none, .ld (.t 37)⟩,
  .op 4 ⟨some 39, none, .mov (.t 4)⟩,
  .op 5 ⟨some 40, none, .mov (.t 5)⟩,
  .op 6 ⟨some 41, none, .bin .sub (.t 40) (.c (.int .i64 1))⟩,
  .op 7 ⟨some 42, none, .ia 1 (.t 39) (.t 41)⟩,
  .op 8 ⟨some 43, none, .ld (.t 42)⟩,
  .op 9 ⟨some 44, none, .bin .neq (.t 38) (.t 43)⟩])
  (.cond (.t 44)
  (c0_slices_Compact_int_int)
  (.skip))))
  (.ops [⟨some 33, none, .mov (.t 5)⟩,
  ⟨some 34, none, .bin .add (.t 33) (.c (.int .i64 1))⟩,
  ⟨some 5, none, .mov (.t 34)⟩])
def c2_slices_Compact_int_int : C :=
 .seq (.seq (.ops [⟨some 29, none, .mov (.t 5)⟩,
  ⟨some 30, none, .mov (.t 4)⟩,
  ⟨some 31, none, .len 1 (.t 30)⟩,
  ⟨some 32, none, .bin .lss (.t 29) (.t 31)⟩])
  (.cond (.t 32)
  (.skip)
  (.exit 2)))
  (c1_slices_Compact_int_int)
def c3_slices_Compact_int_int : C :=
 .seq (.ops [⟨some 54, none, .mov (.t 0)⟩,
  ⟨some 55, none, .mov (.t 3)⟩,
  ⟨some 56, none, .sl 1 (.t 54) (some (.t 55)) none none⟩,
  ⟨none, none, .clr [(.int .i64 0)] (.t 56)⟩])
  (.seq (.ops [⟨some 57, none, .mov (.t 0)⟩,
  ⟨some 58, none, .mov (.t 3)⟩,
  ⟨some 59, none, .sl 1 (.t 57) none (some (.t 58)) none⟩,
  ⟨some 2, none, .mov (.t 59)⟩])
  (.ret))
def c4_slices_Compact_int_int : C :=
 .seq (.block 1
  (.seq (.any 0 [.op 0 ⟨some 16, none, .mov (.t 0)⟩,
  .op 1 ⟨some 17, none, .mov (.t 3)⟩,
  .op 2 ⟨some 18, none, .ia 1 (.t 16) (.t 17)⟩,
  .op 3 ⟨some 19, none, .ld (.t 18)⟩,
  .op 4 ⟨some 20, none, .mov (.t 0)⟩,
  .op 5 ⟨some 21, none, .mov (.t 3)⟩,
  .op 6 ⟨some 22, none, .bin .sub (.t 21) (.c (.int .i64 1))⟩,
  .op 7 ⟨some 23, none, .ia 1 (.t 20) (.t 22)⟩,
  .op 8 ⟨some 24, none, .ld (.t 23)⟩,
  .op 9 ⟨some 25, none, .bin .eql (.t 19) (.t 24)⟩])
  (.cond (.t 25)
  (.seq (.ops [⟨some 26, none, .mov (.t 0)⟩,
  ⟨some 27, none, .mov (.t 3)⟩,
  ⟨some 28, none, .sl 1 (.t 26) (some (.t 27)) none none⟩,
  ⟨some 4, none, .mov (.t 28)⟩])
  (.seq (.seq (.ops [⟨some 5, none, .mov (.c (.int .i64 1))⟩])
  (.block 2
  (.loop c2_slices_Compact_int_int)))
  (c3_slices_Compact_int_int)))
  (.skip))))
  (.ops [⟨some 14, none, .mov (.t 3)⟩,
  ⟨some 15, none, .bin .add (.t 14) (.c (.int .i64 1))⟩,
  ⟨some 3, none, .mov (.t 15)⟩])
def c5_slices_Compact_int_int : C :=
 .seq (.seq (.ops [⟨some 10, none, .mov (.t 3)⟩,
  ⟨some 11, none, .mov (.t 0)⟩,
  ⟨some 12, none, .len 1 (.t 11)⟩,
  ⟨some 13, none, .bin .lss (.t 10) (.t 12)⟩])
  (.cond (.t 13)
  (.skip)
  (.exit 0)))
  (c4_slices_Compact_int_int)
def c6_slices_Compact_int_int : C :=
 .seq (.seq (.ops [⟨some 6, none, .mov (.t 0)⟩,
  ⟨some 7, none, .len 1 (.t 6)⟩,
  ⟨some 8, none, .bin .lss (.t 7) (.c (.int .i64 2))⟩])
  (.cond (.t 8)
  (.seq (.ops [⟨some 9, none, .mov (.t 0)⟩,
  ⟨some 2, none, .mov (.t 9)⟩])
  (.ret))
  (.skip)))
  (.seq (.seq (.ops [⟨some 3, none, .mov (.c (.int .i64 1))⟩])
  (.block 0
  (.loop c5_slices_Compact_int_int)))
  (.seq (.ops [⟨some 60, none, .mov (.t 0)⟩,
  ⟨some 2, none, .mov (.t 60)⟩])
  (.ret)))
def c_slices_Compact_int_int : C :=
 .seq (.ops [⟨some 2, none, .mov (.c (.slice none 0 0))⟩])
  (c6_slices_Compact_int_int)
def f_slices_Compact_int_int : F := ⟨c_slices_Compact_int_int, [.t 2], some []⟩
theorem h_slices_Compact_int_int : compF Tryz.prog (compAny Tryz.prog) n_slices_Compact_int_int = some (f_slices_Compact_int_int.body, f_slices_Compact_int_int.res) := by kernel_rfl
def c0_opt_facts_knows : C :=
 .seq (.ops [⟨some 13, none, .mov (.t 0)⟩,
  ⟨some 14, none, .mov (.t 6)⟩,
  ⟨some 15, none, .nilc (.t 13)⟩,
  ⟨some 16, none, .fa 0 (.t 15)⟩,
  ⟨some 17, none, .iaa 40 1 (.t 16) (.t 14)⟩,
  ⟨some 18, none, .ld (.t 17)⟩,
  ⟨some 19, none, .un .not (.t 18)⟩])
  (.cond (.t 19)
  (.seq (.ops [⟨some 4, none, .mov (.c (.bool false))⟩])
  (.ret))
  (.skip))
def c1_opt_facts_knows : C :=
 .seq (.ops [⟨some 10, none, .bin .lss (.t 9) (.t 8)⟩])
  (.seq (.cond (.t 10)
  (.skip)
  (.exit 0))
  (.seq (.block 1
  (.seq (.ops [⟨some 11, none, .ia 1 (.t 7) (.t 9)⟩,
  ⟨some 12, none, .ld (.t 11)⟩,
  ⟨some 6, none, .mov (.t 12)⟩])
  (c0_opt_facts_knows)))
  (.ops [⟨some 20, none, .bin .add (.t 9) (.c (.int .i64 1))⟩,
  ⟨some 9, none, .mov (.t 20)⟩])))
def c_opt_facts_knows : C :=
 .seq (.ops [⟨some 4, none, .mov (.c (.bool false))⟩])
  (.seq (.seq (.ops [⟨some 7, none, .mov (.t 1)⟩,
  ⟨some 8, none, .len 1 (.t 7)⟩,
  ⟨some 9, none, .mov (.c (.int .i64 0))⟩])
  (.block 0
  (.loop c1_opt_facts_knows)))
  (.seq (.ops [⟨some 4, none, .mov (.c (.bool true))⟩])
  (.ret)))
def f_opt_facts_knows : F := ⟨c_opt_facts_knows, [.t 4], some []⟩
theorem h_opt_facts_knows : compF Tryz.prog (compAny Tryz.prog) n_opt_facts_knows = some (f_opt_facts_knows.body, f_opt_facts_knows.res) := by kernel_rfl
def c0_ir_Run : C :=
 .seq (.block 1
  (.seq (.ops [⟨some 20, none, .ia 5 (.t 16) (.t 18)⟩,
  ⟨some 21, none, .ldn 5 (.t 20)⟩,
  ⟨some 6, none, .new [(.int .i64 0), (.int .i64 0), (.int .i64 0), (.int .i64 0), (.int .u32 0)]⟩,
  ⟨none, none, .stn 5 (.t 6) (.t 21)⟩])
  (.ops [⟨some 22, none, .mov (.t 0)⟩,
  ⟨some 23, none, .ldn 5 (.t 6)⟩,
  ⟨some 24, none, .call n_ir_Regs_do [(.t 22), (.t 23)]⟩])))
  (.ops [⟨some 25, none, .bin .add (.t 18) (.c (.int .i64 1))⟩,
  ⟨some 18, none, .mov (.t 25)⟩])
def c1_ir_Run : C :=
 .seq (.ops [⟨some 19, none, .bin .lss (.t 18) (.t 17)⟩])
  (.seq (.cond (.t 19)
  (.skip)
  (.exit 0))
  (c0_ir_Run))
def c2_ir_Run : C :=
 .seq (.ops [⟨some 13, none, .mov (.t 0)⟩,
  ⟨some 14, none, .nilc (.t 13)⟩,
  ⟨some 15, none, .iaa 40 1 (.t 14) (.c (.int .i64 0))⟩,
  ⟨none, none, .st (.t 15) (.c (.int .u32 0))⟩])
  (.seq (.seq (.ops [⟨some 16, none, .mov (.t 1)⟩,
  ⟨some 17, none, .len 1 (.t 16)⟩,
  ⟨some 18, none, .mov (.c (.int .i64 0))⟩])
  (.block 0
  (.loop c1_ir_Run)))
  (.seq (.ops [⟨some 4, none, .mov (.c (.bool true))⟩])
  (.ret)))
def c3_ir_Run : C :=
 .seq (.seq (.ops [⟨some 7, none, .mov (.t 0)⟩,
  ⟨some 8, none, .eqn 0 false (.t 7)⟩,
  ⟨some 9, none, .mov (.t 8)⟩,
  ⟨some 10, some (9, false), .mov (.t 1)⟩,
  ⟨some 11, some (9, false), .call n_slices_ContainsFunc_ir_Op_ir_Op [(.t 10), (.f n_ir_Run_1)]⟩,
  ⟨some 12, none, .pick (.t 9) (.c (.bool true)) (.t 11)⟩])
  (.cond (.t 12)
  (.seq (.ops [⟨some 4, none, .mov (.c (.bool false))⟩])
  (.ret))
  (.skip)))
  (c2_ir_Run)
def c_ir_Run : C :=
 .seq (.ops [⟨some 4, none, .mov (.c (.bool false))⟩])
  (c3_ir_Run)
def f_ir_Run : F := ⟨c_ir_Run, [.t 4], some []⟩
theorem h_ir_Run : compF Tryz.prog (compAny Tryz.prog) n_ir_Run = some (f_ir_Run.body, f_ir_Run.res) := by kernel_rfl
def c0_decode_put : C :=
 .seq (.ops [⟨some 3, none, .fa 1 (.t 1)⟩,
  ⟨some 4, none, .ld (.t 3)⟩,
  ⟨some 5, none, .conv .u32 (.t 4)⟩,
  ⟨some 6, none, .bin .shl (.t 5) (.c (.int .u64 21))⟩,
  ⟨some 7, none, .fa 2 (.t 1)⟩,
  ⟨some 8, none, .ld (.t 7)⟩,
  ⟨some 9, none, .conv .u32 (.t 8)⟩,
  ⟨some 10, none, .bin .shl (.t 9) (.c (.int .u64 16))⟩,
  ⟨some 11, none, .bin .or (.t 6) (.t 10)⟩,
  ⟨some 12, none, .fa 3 (.t 1)⟩,
  ⟨some 13, none, .ld (.t 12)⟩,
  ⟨some 14, none, .conv .u32 (.t 13)⟩,
  ⟨some 15, none, .bin .shl (.t 14) (.c (.int .u64 11))⟩,
  ⟨some 16, none, .bin .or (.t 11) (.t 15)⟩,
  ⟨some 17, none, .fa 4 (.t 1)⟩,
  ⟨some 18, none, .ld (.t 17)⟩,
  ⟨some 19, none, .conv .u32 (.t 18)⟩,
  ⟨some 20, none, .bin .shl (.t 19) (.c (.int .u64 6))⟩,
  ⟨some 21, none, .bin .or (.t 16) (.t 20)⟩,
  ⟨some 22, none, .fa 5 (.t 1)⟩,
  ⟨some 23, none, .ld (.t 22)⟩,
  ⟨some 24, none, .bin .or (.t 21) (.t 23)⟩,
  ⟨some 2, none, .mov (.t 24)⟩])
  (.ret)
def c_decode_put : C :=
 .seq (.ops [⟨some 1, none, .box (.t 0)⟩,
  ⟨some 2, none, .mov (.c (.int .u32 0))⟩])
  (c0_decode_put)
def f_decode_put : F := ⟨c_decode_put, [.t 2], some []⟩
theorem h_decode_put : compF Tryz.prog (compAny Tryz.prog) n_decode_put = some (f_decode_put.body, f_decode_put.res) := by kernel_rfl
def c_word_Sar : C :=
 .seq (.ops [⟨some 4, none, .mov (.c (.int .u32 0))⟩])
  (.seq (.ops [⟨some 5, none, .mov (.t 0)⟩,
  ⟨some 6, none, .conv .i32 (.t 5)⟩,
  ⟨some 7, none, .mov (.t 1)⟩,
  ⟨some 8, none, .bin .and (.t 7) (.c (.int .i64 31))⟩,
  ⟨some 9, none, .bin .shr (.t 6) (.t 8)⟩,
  ⟨some 10, none, .conv .u32 (.t 9)⟩,
  ⟨some 4, none, .mov (.t 10)⟩])
  (.ret))
def f_word_Sar : F := ⟨c_word_Sar, [.t 4], some []⟩
theorem h_word_Sar : compF Tryz.prog (compAny Tryz.prog) n_word_Sar = some (f_word_Sar.body, f_word_Sar.res) := by kernel_rfl
def c0_slices_pdqsortOrdered_int : C :=
 .cond (.t 35)
  (.seq (.ops [⟨some 36, none, .mov (.t 0)⟩,
  ⟨some 37, none, .mov (.t 1)⟩,
  ⟨some 38, none, .mov (.t 2)⟩,
  ⟨some 39, none, .call n_slices_breakPatternsOrdered_int [(.t 36), (.t 37), (.t 38)]⟩])
  (.ops [⟨some 40, none, .mov (.t 3)⟩,
  ⟨some 41, none, .bin .sub (.t 40) (.c (.int .i64 1))⟩,
  ⟨some 3, none, .mov (.t 41)⟩]))
  (.skip)
def c1_slices_pdqsortOrdered_int : C :=
 .seq (.ops [⟨some 55, none, .mov (.t 2)⟩,
  ⟨some 56, none, .bin .sub (.t 55) (.c (.int .i64 1))⟩,
  ⟨some 57, none, .mov (.t 11)⟩,
  ⟨some 58, none, .mov (.t 1)⟩,
  ⟨some 59, none, .bin .sub (.t 57) (.t 58)⟩,
  ⟨some 60, none, .bin .sub (.t 56) (.t 59)⟩,
  ⟨some 11, none, .mov (.t 60)⟩])
  (.ops [⟨some 12, none, .mov (.c (.int .i64 1))⟩])
def c2_slices_pdqsortOrdered_int : C :=
 .seq (.ops [⟨some 88, none, .mov (.t 0)⟩,
  ⟨some 89, none, .mov (.t 1)⟩,
  ⟨some 90, none, .mov (.t 2)⟩,
  ⟨some 91, none, .mov (.t 11)⟩,
  ⟨some 92, none, .call n_slices_partitionEqualOrdered_int [(.t 88), (.t 89), (.t 90), (.t 91)]⟩,
  ⟨some 13, none, .mov (.t 92)⟩])
  (.seq (.ops [⟨some 93, none, .mov (.t 13)⟩,
  ⟨some 1, none, .mov (.t 93)⟩])
  (.exit 1))
def c3_slices_pdqsortOrdered_int : C :=
 .seq (.ops [⟨some 117, none, .mov (.t 0)⟩,
  ⟨some 118, none, .mov (.t 1)⟩,
  ⟨some 119, none, .mov (.t 14)⟩,
  ⟨some 120, none, .mov (.t 3)⟩,
  ⟨some 121, none, .call n_slices_pdqsortOrdered_int [(.t 117), (.t 118), (.t 119), (.t 120)]⟩])
  (.ops [⟨some 122, none, .mov (.t 14)⟩,
  ⟨some 123, none, .bin .add (.t 122) (.c (.int .i64 1))⟩,
  ⟨some 1, none, .mov (.t 123)⟩])
def c4_slices_pdqsortOrdered_int : C :=
 .seq (.ops [⟨some 127, none, .mov (.t 0)⟩,
  ⟨some 128, none, .mov (.t 14)⟩,
  ⟨some 129, none, .bin .add (.t 128) (.c (.int .i64 1))⟩,
  ⟨some 130, none, .mov (.t 2)⟩,
  ⟨some 131, none, .mov (.t 3)⟩,
  ⟨some 132, none, .call n_slices_pdqsortOrdered_int [(.t 127), (.t 129), (.t 130), (.t 131)]⟩])
  (.ops [⟨some 133, none, .mov (.t 14)⟩,
  ⟨some 2, none, .mov (.t 133)⟩])
def c5_slices_pdqsortOrdered_int : C :=
 .cond (.t 113)
  (.seq (.ops [⟨some 114, none, .mov (.t 16)⟩,
  ⟨some 115, none, .mov (.t 18)⟩,
  ⟨some 116, none, .bin .geq (.t 114) (.t 115)⟩,
  ⟨some 8, none, .mov (.t 116)⟩])
  (c3_slices_pdqsortOrdered_int))
  (.seq (.ops [⟨some 124, none, .mov (.t 17)⟩,
  ⟨some 125, none, .mov (.t 18)⟩,
  ⟨some 126, none, .bin .geq (.t 124) (.t 125)⟩,
  ⟨some 8, none, .mov (.t 126)⟩])
  (c4_slices_pdqsortOrdered_int))
def c6_slices_pdqsortOrdered_int : C :=
 .seq (.ops [⟨some 103, none, .mov (.t 14)⟩,
  ⟨some 104, none, .mov (.t 1)⟩,
  ⟨some 105, none, .bin .sub (.t 103) (.t 104)⟩,
  ⟨some 106, none, .mov (.t 2)⟩,
  ⟨some 107, none, .mov (.t 14)⟩,
  ⟨some 108, none, .bin .sub (.t 106) (.t 107)⟩,
  ⟨some 16, none, .mov (.t 105)⟩,
  ⟨some 17, none, .mov (.t 108)⟩])
  (.seq (.ops [⟨some 109, none, .mov (.t 10)⟩,
  ⟨some 110, none, .bin .quo (.t 109) (.c (.int .i64 8))⟩,
  ⟨some 18, none, .mov (.t 110)⟩])
  (.seq (.ops [⟨some 111, none, .mov (.t 16)⟩,
  ⟨some 112, none, .mov (.t 17)⟩,
  ⟨some 113, none, .bin .lss (.t 111) (.t 112)⟩])
  (c5_slices_pdqsortOrdered_int)))
def c7_slices_pdqsortOrdered_int : C :=
 .seq (.ops [⟨some 95, none, .mov (.t 0)⟩,
  ⟨some 96, none, .mov (.t 1)⟩,
  ⟨some 97, none, .mov (.t 2)⟩,
  ⟨some 98, none, .mov (.t 11)⟩,
  ⟨some 99, none, .call n_slices_partitionOrdered_int [(.t 95), (.t 96), (.t 97), (.t 98)]⟩,
  ⟨some 94, none, .mov (.t 99)⟩,
  ⟨some 100, none, .ext (.t 94) 0⟩,
  ⟨some 101, none, .ext (.t 94) 1⟩,
  ⟨some 14, none, .mov (.t 100)⟩,
  ⟨some 15, none, .mov (.t 101)⟩])
  (.seq (.ops [⟨some 102, none, .mov (.t 15)⟩,
  ⟨some 9, none, .mov (.t 102)⟩])
  (c6_slices_pdqsortOrdered_int))
def c8_slices_pdqsortOrdered_int : C :=
 .seq (.seq (.any 0 [.op 0 ⟨some 73, none, .mov (.t 1)⟩,
  .op 1 ⟨some 74, none, .bin .gtr (.t 73) (.c (.int .i64 0))⟩,
  .op 2 ⟨some 75, none, .mov (.t 74)⟩,
  .op 3 ⟨some 76, some (75, true), .mov (.t 0)⟩,
  .op 4 ⟨some 77, some (75, true), .mov (.t 1)⟩,
  .op 5 ⟨some 78, some (75, true), .bin .sub (.t 77) (.c (.int .i64 1))⟩,
  .op 6 ⟨some 79, some (75, true), .ia 1 (.t 76) (.t 78)⟩,
  .op 7 ⟨some 80, some (75, true), .ld (.t 79)⟩,
  .op 8 ⟨some 81, some (75, true), .mov (.t 0)⟩,
  .op 9 ⟨some 82, some (75, true), .mov (.t 11)⟩,
  .op 10 ⟨some 83, some (75, true), .ia 1 (.t 81) (.t 82)⟩,
  .op 11 ⟨some 84, some (75, true), .ld (.t 83)⟩,
  .op 12 ⟨some 85, some (75, true), .call n_cmp_Less_int [(.t 80), (.t 84)]⟩,
  .op 13 ⟨some 86, some (75, true), .un .not (.t 85)⟩,
  .op 14 ⟨some 87, none, .pick (.t 75) (.t 86) (.c (.bool false))⟩])
  (.cond (.t 87)
  (c2_slices_pdqsortOrdered_int)
  (.skip)))
  (c7_slices_pdqsortOrdered_int)
def c9_slices_pdqsortOrdered_int : C :=
 .seq (.seq (.ops [⟨some 61, none, .mov (.t 8)⟩,
  ⟨some 62, none, .mov (.t 61)⟩,
  ⟨some 63, some (62, true), .mov (.t 9)⟩,
  ⟨some 64, none, .pick (.t 62) (.t 63) (.c (.bool false))⟩,
  ⟨some 65, none, .mov (.t 64)⟩,
  ⟨some 66, some (65, true), .mov (.t 12)⟩,
  ⟨some 67, some (65, true), .bin .eql (.t 66) (.c (.int .i64 1))⟩,
  ⟨some 68, none, .pick (.t 65) (.t 67) (.c (.bool false))⟩])
  (.cond (.t 68)
  (.seq (.ops [⟨some 69, none, .mov (.t 0)⟩,
  ⟨some 70, none, .mov (.t 1)⟩,
  ⟨some 71, none, .mov (.t 2)⟩,
  ⟨some 72, none, .call n_slices_partialInsertionSortOrdered_int [(.t 69), (.t 70), (.t 71)]⟩])
  (.cond (.t 72)
  (.ret)
  (.skip)))
  (.skip)))
  (c8_slices_pdqsortOrdered_int)
def c10_slices_pdqsortOrdered_int : C :=
 .seq (.seq (.ops [⟨some 49, none, .mov (.t 12)⟩,
  ⟨some 50, none, .bin .eql (.t 49) (.c (.int .i64 2))⟩])
  (.cond (.t 50)
  (.seq (.ops [⟨some 51, none, .mov (.t 0)⟩,
  ⟨some 52, none, .mov (.t 1)⟩,
  ⟨some 53, none, .mov (.t 2)⟩,
  ⟨some 54, none, .call n_slices_reverseRangeOrdered_int [(.t 51), (.t 52), (.t 53)]⟩])
  (c1_slices_pdqsortOrdered_int))
  (.skip)))
  (c9_slices_pdqsortOrdered_int)
def c11_slices_pdqsortOrdered_int : C :=
 .seq (.ops [⟨some 43, none, .mov (.t 0)⟩,
  ⟨some 44, none, .mov (.t 1)⟩,
  ⟨some 45, none, .mov (.t 2)⟩,
  ⟨some 46, none, .call n_slices_choosePivotOrdered_int [(.t 43), (.t 44), (.t 45)]⟩,
  ⟨some 42, none, .mov (.t 46)⟩,
  ⟨some 47, none, .ext (.t 42) 0⟩,
  ⟨some 48, none, .ext (.t 42) 1⟩,
  ⟨some 11, none, .mov (.t 47)⟩,
  ⟨some 12, none, .mov (.t 48)⟩])
  (c10_slices_pdqsortOrdered_int)
def c12_slices_pdqsortOrdered_int : C :=
 .seq (.seq (.ops [⟨some 28, none, .mov (.t 3)⟩,
  ⟨some 29, none, .bin .eql (.t 28) (.c (.int .i64 0))⟩])
  (.cond (.t 29)
  (.seq (.ops [⟨some 30, none, .mov (.t 0)⟩,
  ⟨some 31, none, .mov (.t 1)⟩,
  ⟨some 32, none, .mov (.t 2)⟩,
  ⟨some 33, none, .call n_slices_heapSortOrdered_int [(.t 30), (.t 31), (.t 32)]⟩])
  (.ret))
  (.skip)))
  (.seq (.seq (.ops [⟨some 34, none, .mov (.t 8)⟩,
  ⟨some 35, none, .un .not (.t 34)⟩])
  (c0_slices_pdqsortOrdered_int))
  (c11_slices_pdqsortOrdered_int))
def c13_slices_pdqsortOrdered_int : C :=
 .seq (.seq (.ops [⟨some 22, none, .mov (.t 10)⟩,
  ⟨some 23, none, .bin .leq (.t 22) (.c (.int .i64 12))⟩])
  (.cond (.t 23)
  (.seq (.ops [⟨some 24, none, .mov (.t 0)⟩,
  ⟨some 25, none, .mov (.t 1)⟩,
  ⟨some 26, none, .mov (.t 2)⟩,
  ⟨some 27, none, .call n_slices_insertionSortOrdered_int [(.t 24), (.t 25), (.t 26)]⟩])
  (.ret))
  (.skip)))
  (c12_slices_pdqsortOrdered_int)
def c14_slices_pdqsortOrdered_int : C :=
 .block 1
  (.seq (.ops [⟨some 19, none, .mov (.t 2)⟩,
  ⟨some 20, none, .mov (.t 1)⟩,
  ⟨some 21, none, .bin .sub (.t 19) (.t 20)⟩,
  ⟨some 10, none, .mov (.t 21)⟩])
  (c13_slices_pdqsortOrdered_int))
def c_slices_pdqsortOrdered_int : C :=
 .seq (.ops [⟨some 8, none, .mov (.c (.bool true))⟩])
  (.seq (.ops [⟨some 9, none, .mov (.c (.bool true))⟩])
  (.block 0
  (.loop c14_slices_pdqsortOrdered_int)))
def f_slices_pdqsortOrdered_int : F := ⟨c_slices_pdqsortOrdered_int, [], some []⟩
theorem h_slices_pdqsortOrdered_int : compF Tryz.prog (compAny Tryz.prog) n_slices_pdqsortOrdered_int = some (f_slices_pdqsortOrdered_int.body, f_slices_pdqsortOrdered_int.res) := by kernel_rfl
def c0_math_bits_Len : C :=
 .seq (.cond (.c (.bool false))
  (.seq (.ops [⟨some 3, none, .mov (.t 0)⟩,
  ⟨some 4, none, .conv .u32 (.t 3)⟩,
  ⟨some 5, none, .call n_math_bits_Len32 [(.t 4)]⟩,
  ⟨some 2, none, .mov (.t 5)⟩])
  (.ret))
  (.skip))
  (.seq (.ops [⟨some 6, none, .mov (.t 0)⟩,
  ⟨some 7, none, .call n_math_bits_Len64 [(.t 6)]⟩,
  ⟨some 2, none, .mov (.t 7)⟩])
  (.ret))
def c_math_bits_Len : C :=
 .seq (.ops [⟨some 2, none, .mov (.c (.int .i64 0))⟩])
  (c0_math_bits_Len)
def f_math_bits_Len : F := ⟨c_math_bits_Len, [.t 2], some []⟩
theorem h_math_bits_Len : compF Tryz.prog (compAny Tryz.prog) n_math_bits_Len = some (f_math_bits_Len.body, f_math_bits_Len.res) := by kernel_rfl
def c_slices_ContainsFunc_ir_Op_ir_Op : C :=
 .seq (.ops [⟨some 4, none, .mov (.c (.bool false))⟩])
  (.seq (.ops [⟨some 5, none, .mov (.t 0)⟩,
  ⟨some 6, none, .mov (.t 1)⟩,
  ⟨some 7, none, .call n_slices_IndexFunc_ir_Op_ir_Op [(.t 5), (.t 6)]⟩,
  ⟨some 8, none, .bin .geq (.t 7) (.c (.int .i64 0))⟩,
  ⟨some 4, none, .mov (.t 8)⟩])
  (.ret))
def f_slices_ContainsFunc_ir_Op_ir_Op : F := ⟨c_slices_ContainsFunc_ir_Op_ir_Op, [.t 4], some []⟩
theorem h_slices_ContainsFunc_ir_Op_ir_Op : compF Tryz.prog (compAny Tryz.prog) n_slices_ContainsFunc_ir_Op_ir_Op = some (f_slices_ContainsFunc_ir_Op_ir_Op.body, f_slices_ContainsFunc_ir_Op_ir_Op.res) := by kernel_rfl
def c_ir_Run_1 : C :=
 .seq (.ops [⟨some 1, none, .box (.t 0)⟩,
  ⟨some 2, none, .mov (.c (.bool false))⟩])
  (.seq (.ops [⟨some 3, none, .ldn 5 (.t 1)⟩,
  ⟨some 4, none, .call n_ir_Right [(.t 3)]⟩,
  ⟨some 5, none, .un .not (.t 4)⟩,
  ⟨some 2, none, .mov (.t 5)⟩])
  (.ret))
def f_ir_Run_1 : F := ⟨c_ir_Run_1, [.t 2], some []⟩
theorem h_ir_Run_1 : compF Tryz.prog (compAny Tryz.prog) n_ir_Run_1 = some (f_ir_Run_1.body, f_ir_Run_1.res) := by kernel_rfl
def c0_ir_Regs_do : C :=
 .any 0 [.op 2 ⟨some 40, none, .mov (.t 4)⟩,
  .op 3 ⟨some 41, none, .mov (.t 5)⟩,
  .op 4 ⟨some 42, none, .mov (.t 6)⟩,
  .op 5 ⟨some 43, none, .bin .eql (.t 42) (.c (.int .i64 17))⟩,
  .op 6 ⟨some 44, none, .call n_word_Mul [(.t 40), (.t 41), (.t 43)]⟩,
  .op 0 ⟨some 38, none, .mov (.t 0)⟩,
  .op 7 ⟨some 37, none, .mov (.t 44)⟩,
  .op 8 ⟨some 45, none, .ext (.t 37) 0⟩,
  .op 10 ⟨some 47, none, .nilc (.t 38)⟩,
  .op 11 ⟨some 48, none, .iaa 40 1 (.t 47) (.c (.int .i64 32))⟩,
  .op 12 ⟨none, none, .st (.t 48) (.t 45)⟩,
  .op 1 ⟨some 39, none, .mov (.t 0)⟩,
  .op 9 ⟨some 46, none, .ext (.t 37) 1⟩,
  .op 13 ⟨some 49, none, .nilc (.t 39)⟩,
  .op 14 ⟨some 50, none, .iaa 40 1 (.t 49) (.c (.int .i64 33))⟩,
  .op 15 ⟨none, none, .st (.t 50) (.t 46)⟩]
def c1_ir_Regs_do : C :=
 .any 0 [.op 2 ⟨some 61, none, .mov (.t 4)⟩,
  .op 3 ⟨some 62, none, .mov (.t 5)⟩,
  .op 4 ⟨some 63, none, .mov (.t 6)⟩,
  .op 5 ⟨some 64, none, .bin .eql (.t 63) (.c (.int .i64 19))⟩,
  .op 6 ⟨some 65, none, .call n_word_Div [(.t 61), (.t 62), (.t 64)]⟩,
  .op 0 ⟨some 59, none, .mov (.t 0)⟩,
  .op 7 ⟨some 58, none, .mov (.t 65)⟩,
  .op 8 ⟨some 66, none, .ext (.t 58) 0⟩,
  .op 10 ⟨some 68, none, .nilc (.t 59)⟩,
  .op 11 ⟨some 69, none, .iaa 40 1 (.t 68) (.c (.int .i64 33))⟩,
  .op 12 ⟨none, none, .st (.t 69) (.t 66)⟩,
  .op 1 ⟨some 60, none, .mov (.t 0)⟩,
  .op 9 ⟨some 67, none, .ext (.t 58) 1⟩,
  .op 13 ⟨some 70, none, .nilc (.t 60)⟩,
  .op 14 ⟨some 71, none, .iaa 40 1 (.t 70) (.c (.int .i64 32))⟩,
  .op 15 ⟨none, none, .st (.t 71) (.t 67)⟩]
def c2_ir_Regs_do : C :=
 .any 0 [.op 1 ⟨some 22, none, .fa 1 (.t 3)⟩,
  .op 2 ⟨some 23, none, .ld (.t 22)⟩,
  .op 3 ⟨some 24, none, .ldn 5 (.t 3)⟩,
  .op 4 ⟨some 25, none, .mov (.t 4)⟩,
  .op 5 ⟨some 26, none, .mov (.t 5)⟩,
  .op 6 ⟨some 27, none, .call n_ir_of [(.t 24), (.t 25), (.t 26)]⟩,
  .re 2 ⟨some 23, none, .ld (.t 22)⟩,
  .op 0 ⟨some 21, none, .mov (.t 0)⟩,
  .op 7 ⟨some 28, none, .nilc (.t 21)⟩,
  .op 8 ⟨some 29, none, .iaa 40 1 (.t 28) (.t 23)⟩,
  .op 9 ⟨none, none, .st (.t 29) (.t 27)⟩]
def c3_ir_Regs_do : C :=
 .seq (.ops [⟨some 73, none, .mov (.t 6)⟩,
  ⟨some 74, none, .bin .eql (.t 73) (.c (.int .i64 0))⟩,
  ⟨some 75, none, .mov (.t 74)⟩,
  ⟨some 76, some (75, false), .fa 1 (.t 3)⟩,
  ⟨some 77, some (75, false), .ld (.t 76)⟩,
  ⟨some 78, some (75, false), .bin .eql (.t 77) (.c (.int .i64 0))⟩,
  ⟨some 79, none, .pick (.t 75) (.c (.bool true)) (.t 78)⟩,
  ⟨some 80, none, .mov (.t 79)⟩,
  ⟨some 81, some (80, false), .mov (.t 6)⟩,
  ⟨some 82, some (80, false), .bin .eql (.t 81) (.c (.int .i64 21))⟩,
  ⟨some 83, some (80, false), .mov (.t 82)⟩,
  ⟨some 84, some (83, false), .mov (.t 6)⟩,
  ⟨some 85, some (83, false), .bin .eql (.t 84) (.c (.int .i64 22))⟩,
  ⟨some 86, some (80, false), .pick (.t 83) (.c (.bool true)) (.t 85)⟩,
  ⟨some 87, some (80, false), .mov (.t 86)⟩,
  ⟨some 88, some (87, true), .mov (.t 5)⟩,
  ⟨some 89, some (87, true), .bin .eql (.t 88) (.c (.int .u32 0))⟩,
  ⟨some 90, some (87, true), .mov (.t 6)⟩,
  ⟨some 91, some (87, true), .bin .eql (.t 90) (.c (.int .i64 21))⟩,
  ⟨some 92, some (87, true), .eqb true (.t 89) (.t 91)⟩,
  ⟨some 93, some (80, false), .pick (.t 87) (.t 92) (.c (.bool false))⟩,
  ⟨some 94, none, .pick (.t 80) (.c (.bool true)) (.t 93)⟩,
  ⟨some 72, none, .mov (.t 94)⟩])
  (.cond (.t 72)
  (.skip)
  (c2_ir_Regs_do))
def c4_ir_Regs_do : C :=
 .seq (.ops [⟨some 52, none, .mov (.t 6)⟩,
  ⟨some 53, none, .bin .eql (.t 52) (.c (.int .i64 19))⟩,
  ⟨some 54, none, .mov (.t 53)⟩,
  ⟨some 55, some (54, false), .mov (.t 6)⟩,
  ⟨some 56, some (54, false), .bin .eql (.t 55) (.c (.int .i64 20))⟩,
  ⟨some 57, none, .pick (.t 54) (.c (.bool true)) (.t 56)⟩,
  ⟨some 51, none, .mov (.t 57)⟩])
  (.cond (.t 51)
  (c1_ir_Regs_do)
  (c3_ir_Regs_do))
def c5_ir_Regs_do : C :=
 .block 0
  (.seq (.ops [⟨some 31, none, .mov (.t 6)⟩,
  ⟨some 32, none, .bin .eql (.t 31) (.c (.int .i64 17))⟩,
  ⟨some 33, none, .mov (.t 32)⟩,
  ⟨some 34, some (33, false), .mov (.t 6)⟩,
  ⟨some 35, some (33, false), .bin .eql (.t 34) (.c (.int .i64 18))⟩,
  ⟨some 36, none, .pick (.t 33) (.c (.bool true)) (.t 35)⟩,
  ⟨some 30, none, .mov (.t 36)⟩])
  (.cond (.t 30)
  (c0_ir_Regs_do)
  (c4_ir_Regs_do)))
def c6_ir_Regs_do : C :=
 .seq (.any 0 [.op 0 ⟨some 7, none, .mov (.t 0)⟩,
  .op 1 ⟨some 8, none, .fa 2 (.t 3)⟩,
  .op 2 ⟨some 9, none, .ld (.t 8)⟩,
  .op 3 ⟨some 10, none, .nilc (.t 7)⟩,
  .op 4 ⟨some 11, none, .iaa 40 1 (.t 10) (.t 9)⟩,
  .op 5 ⟨some 12, none, .ld (.t 11)⟩,
  .op 6 ⟨some 13, none, .mov (.t 0)⟩,
  .op 7 ⟨some 14, none, .fa 3 (.t 3)⟩,
  .op 8 ⟨some 15, none, .ld (.t 14)⟩,
  .op 9 ⟨some 16, none, .nilc (.t 13)⟩,
  .op 10 ⟨some 17, none, .iaa 40 1 (.t 16) (.t 15)⟩,
  .op 11 ⟨some 18, none, .ld (.t 17)⟩,
  .op 12 ⟨some 4, none, .mov (.t 12)⟩,
  .op 13 ⟨some 5, none, .mov (.t 18)⟩])
  (.seq (.ops [⟨some 19, none, .fa 0 (.t 3)⟩,
  ⟨some 20, none, .ld (.t 19)⟩,
  ⟨some 6, none, .mov (.t 20)⟩])
  (c5_ir_Regs_do))
def c_ir_Regs_do : C :=
 .seq (.ops [⟨some 3, none, .box (.t 1)⟩])
  (c6_ir_Regs_do)
def f_ir_Regs_do : F := ⟨c_ir_Regs_do, [], some []⟩
theorem h_ir_Regs_do : compF Tryz.prog (compAny Tryz.prog) n_ir_Regs_do = some (f_ir_Regs_do.body, f_ir_Regs_do.res) := by kernel_rfl
end Go.Proofs.YtmgoleiafiffoaaGreat.Cd
