/- Texts of one kind, one behind the other. -/
import Derived.Test.YtjobkhnanbkcjaaMd0
import Derived.Test.YtjobkhnanbkcjaaMc0
/- The code of the functions that are reached, as the interpreter reads it. -/
set_option maxRecDepth 100000
set_option linter.defProp false
namespace Go.Proofs.Ytjobkhnanbkcjaa.Cd
open Go Go.Dx
def T : Nat → Option Dx.Fn := ins n_pianolalaw18_IrRows (.code f_pianolalaw18_IrRows) <| ins n_pianolalaw18_IrNumbers (.code f_pianolalaw18_IrNumbers) <| ins n_pianolalaw18_IrTells (.code f_pianolalaw18_IrTells) <| ins n_pianolalaw18_IrCells (.code f_pianolalaw18_IrCells) <| ins n_pianolalaw20_OptNumbers (.code f_pianolalaw20_OptNumbers) <| ins n_pianolalaw20_OptSame (.code f_pianolalaw20_OptSame) <| ins n_pianolalaw20_OptDead (.code f_pianolalaw20_OptDead) <| ins n_pianolalaw20_OptFolds (.code f_pianolalaw20_OptFolds) <| ins n_pianolalaw20_OptLifts (.code f_pianolalaw20_OptLifts) <| ins n_pianolalaw18_near (.code f_pianolalaw18_near) <| ins n_pianolalaw18_regs (.code f_pianolalaw18_regs) <| ins n_pianolabook_Within (.code f_pianolabook_Within) <| ins n_ir_Run (.code f_ir_Run) <| ins n_pianolalaw18_known (.code f_pianolalaw18_known) <| ins n_pianolalaw18_tells (.code f_pianolalaw18_tells) <| ins n_pianolalaw18_runs (.code f_pianolalaw18_runs) <| ins n_ir_Reads (.code f_ir_Reads) <| ins n_ir_Writes (.code f_ir_Writes) <| ins n_pianolalaw20_same (.code f_pianolalaw20_same) <| ins n_opt_Opt (.code f_opt_Opt) <| ins n_opt_Dead (.code f_opt_Dead) <| ins n_opt_Fold (.code f_opt_Fold) <| ins n_pianolalaw20_live (.code f_pianolalaw20_live) <| ins n_pianolalaw20_known (.code f_pianolalaw20_known) <| ins n_pianolalaw20_near (.code f_pianolalaw20_near) <| ins n_pianolabook_Same_ir_Op (.code f_pianolabook_Same_ir_Op) <| ins n_pianolalaw18_cell (.code f_pianolalaw18_cell) <| ins n_slices_ContainsFunc_ir_Op_ir_Op (.code f_slices_ContainsFunc_ir_Op_ir_Op) <| ins n_ir_Run_1 (.code f_ir_Run_1) <| ins n_ir_Right (.code f_ir_Right) <| ins n_ir_Regs_do (.code f_ir_Regs_do) <| ins n_pianolabook_Same_int (.code f_pianolabook_Same_int) <| ins n_pianolaref18_Right (.code f_pianolaref18_Right) <| ins n_pianolaref18_Reads (.code f_pianolaref18_Reads) <| ins n_pianolaref18_Writes (.code f_pianolaref18_Writes) <| ins n_pianolaref18_Run (.code f_pianolaref18_Run) <| ins n_pianolabook_Same_uint32 (.code f_pianolabook_Same_uint32) <| ins n_slices_Sort_int_int (.code f_slices_Sort_int_int) <| ins n_slices_Compact_int_int (.code f_slices_Compact_int_int) <| ins n_pianolalaw20_leaves (.code f_pianolalaw20_leaves) <| ins n_opt_right (.code f_opt_right) <| ins n_slices_ContainsFunc_int_int (.code f_slices_ContainsFunc_int_int) <| ins n_opt_Dead_1 (.code f_opt_Dead_1) <| ins n_opt_sure (.code f_opt_sure) <| ins n_slices_Reverse_ir_Op_ir_Op (.code f_slices_Reverse_ir_Op_ir_Op) <| ins n_opt_facts_fold (.code f_opt_facts_fold) <| ins n_opt_facts_done (.code f_opt_facts_done) <| ins n_pianolalaw20_cell (.code f_pianolalaw20_cell) <| ins n_slices_IndexFunc_ir_Op_ir_Op (.code f_slices_IndexFunc_ir_Op_ir_Op) <| ins n_word_Mul (.code f_word_Mul) <| ins n_word_Div (.code f_word_Div) <| ins n_ir_of (.code f_ir_of) <| ins n_pianolaref18_sorted (.code f_pianolaref18_sorted) <| ins n_pianolaref18_One (.code f_pianolaref18_One) <| ins n_slices_pdqsortOrdered_int (.code f_slices_pdqsortOrdered_int) <| ins n_math_bits_Len (.code f_math_bits_Len) <| ins n_slices_IndexFunc_int_int (.code f_slices_IndexFunc_int_int) <| ins n_opt_facts_knows (.code f_opt_facts_knows) <| ins n_word_Sar (.code f_word_Sar) <| ins n_ir_one (.code f_ir_one) <| ins n_word_Less (.code f_word_Less) <| ins n_word_Clz (.code f_word_Clz) <| ins n_word_Clo (.code f_word_Clo) <| ins n_pianolaref1_Sar (.code f_pianolaref1_Sar) <| ins n_pianolaref18_bit (.code f_pianolaref18_bit) <| ins n_pianolaref1_Less (.code f_pianolaref1_Less) <| ins n_pianolaref1_Mul (.code f_pianolaref1_Mul) <| ins n_pianolaref1_Clz (.code f_pianolaref1_Clz) <| ins n_pianolaref1_Clo (.code f_pianolaref1_Clo) <| ins n_pianolaref1_Div (.code f_pianolaref1_Div) <| ins n_slices_insertionSortOrdered_int (.code f_slices_insertionSortOrdered_int) <| ins n_slices_heapSortOrdered_int (.code f_slices_heapSortOrdered_int) <| ins n_slices_breakPatternsOrdered_int (.code f_slices_breakPatternsOrdered_int) <| ins n_slices_choosePivotOrdered_int (.code f_slices_choosePivotOrdered_int) <| ins n_slices_reverseRangeOrdered_int (.code f_slices_reverseRangeOrdered_int) <| ins n_slices_partialInsertionSortOrdered_int (.code f_slices_partialInsertionSortOrdered_int) <| ins n_cmp_Less_int (.code f_cmp_Less_int) <| ins n_slices_partitionEqualOrdered_int (.code f_slices_partitionEqualOrdered_int) <| ins n_slices_partitionOrdered_int (.code f_slices_partitionOrdered_int) <| ins n_math_bits_Len32 (.code f_math_bits_Len32) <| ins n_math_bits_Len64 (.code f_math_bits_Len64) <| ins n_math_bits_LeadingZeros32 (.code f_math_bits_LeadingZeros32) <| ins n_pianolaref1_wide (.code f_pianolaref1_wide) <| ins n_slices_siftDownOrdered_int (.code f_slices_siftDownOrdered_int) <| ins n_slices_nextPowerOfTwo (.code f_slices_nextPowerOfTwo) <| ins n_slices_xorshift_Next (.code f_slices_xorshift_Next) <| ins n_slices_medianAdjacentOrdered_int (.code f_slices_medianAdjacentOrdered_int) <| ins n_slices_medianOrdered_int (.code f_slices_medianOrdered_int) <| ins n_cmp_isNaN_int (.code f_cmp_isNaN_int) <| ins n_slices_order2Ordered_int (.code f_slices_order2Ordered_int) <| fun _ => none
theorem T_pianolalaw18_IrRows : T n_pianolalaw18_IrRows = some (.code f_pianolalaw18_IrRows) := rfl
theorem T_pianolalaw18_IrNumbers : T n_pianolalaw18_IrNumbers = some (.code f_pianolalaw18_IrNumbers) := rfl
theorem T_pianolalaw18_IrTells : T n_pianolalaw18_IrTells = some (.code f_pianolalaw18_IrTells) := rfl
theorem T_pianolalaw18_IrCells : T n_pianolalaw18_IrCells = some (.code f_pianolalaw18_IrCells) := rfl
theorem T_pianolalaw20_OptNumbers : T n_pianolalaw20_OptNumbers = some (.code f_pianolalaw20_OptNumbers) := rfl
theorem T_pianolalaw20_OptSame : T n_pianolalaw20_OptSame = some (.code f_pianolalaw20_OptSame) := rfl
theorem T_pianolalaw20_OptDead : T n_pianolalaw20_OptDead = some (.code f_pianolalaw20_OptDead) := rfl
theorem T_pianolalaw20_OptFolds : T n_pianolalaw20_OptFolds = some (.code f_pianolalaw20_OptFolds) := rfl
theorem T_pianolalaw20_OptLifts : T n_pianolalaw20_OptLifts = some (.code f_pianolalaw20_OptLifts) := rfl
theorem T_pianolalaw18_near : T n_pianolalaw18_near = some (.code f_pianolalaw18_near) := rfl
theorem T_pianolalaw18_regs : T n_pianolalaw18_regs = some (.code f_pianolalaw18_regs) := rfl
theorem T_pianolabook_Within : T n_pianolabook_Within = some (.code f_pianolabook_Within) := rfl
theorem T_ir_Run : T n_ir_Run = some (.code f_ir_Run) := rfl
theorem T_pianolalaw18_known : T n_pianolalaw18_known = some (.code f_pianolalaw18_known) := rfl
theorem T_pianolalaw18_tells : T n_pianolalaw18_tells = some (.code f_pianolalaw18_tells) := rfl
theorem T_pianolalaw18_runs : T n_pianolalaw18_runs = some (.code f_pianolalaw18_runs) := rfl
theorem T_ir_Reads : T n_ir_Reads = some (.code f_ir_Reads) := rfl
theorem T_ir_Writes : T n_ir_Writes = some (.code f_ir_Writes) := rfl
theorem T_pianolalaw20_same : T n_pianolalaw20_same = some (.code f_pianolalaw20_same) := rfl
theorem T_opt_Opt : T n_opt_Opt = some (.code f_opt_Opt) := rfl
theorem T_opt_Dead : T n_opt_Dead = some (.code f_opt_Dead) := rfl
theorem T_opt_Fold : T n_opt_Fold = some (.code f_opt_Fold) := rfl
theorem T_pianolalaw20_live : T n_pianolalaw20_live = some (.code f_pianolalaw20_live) := rfl
theorem T_pianolalaw20_known : T n_pianolalaw20_known = some (.code f_pianolalaw20_known) := rfl
theorem T_pianolalaw20_near : T n_pianolalaw20_near = some (.code f_pianolalaw20_near) := rfl
theorem T_pianolabook_Same_ir_Op : T n_pianolabook_Same_ir_Op = some (.code f_pianolabook_Same_ir_Op) := rfl
theorem T_pianolalaw18_cell : T n_pianolalaw18_cell = some (.code f_pianolalaw18_cell) := rfl
theorem T_slices_ContainsFunc_ir_Op_ir_Op : T n_slices_ContainsFunc_ir_Op_ir_Op = some (.code f_slices_ContainsFunc_ir_Op_ir_Op) := rfl
theorem T_ir_Run_1 : T n_ir_Run_1 = some (.code f_ir_Run_1) := rfl
theorem T_ir_Right : T n_ir_Right = some (.code f_ir_Right) := rfl
theorem T_ir_Regs_do : T n_ir_Regs_do = some (.code f_ir_Regs_do) := rfl
theorem T_pianolabook_Same_int : T n_pianolabook_Same_int = some (.code f_pianolabook_Same_int) := rfl
theorem T_pianolaref18_Right : T n_pianolaref18_Right = some (.code f_pianolaref18_Right) := rfl
theorem T_pianolaref18_Reads : T n_pianolaref18_Reads = some (.code f_pianolaref18_Reads) := rfl
theorem T_pianolaref18_Writes : T n_pianolaref18_Writes = some (.code f_pianolaref18_Writes) := rfl
theorem T_pianolaref18_Run : T n_pianolaref18_Run = some (.code f_pianolaref18_Run) := rfl
theorem T_pianolabook_Same_uint32 : T n_pianolabook_Same_uint32 = some (.code f_pianolabook_Same_uint32) := rfl
theorem T_slices_Sort_int_int : T n_slices_Sort_int_int = some (.code f_slices_Sort_int_int) := rfl
theorem T_slices_Compact_int_int : T n_slices_Compact_int_int = some (.code f_slices_Compact_int_int) := rfl
theorem T_pianolalaw20_leaves : T n_pianolalaw20_leaves = some (.code f_pianolalaw20_leaves) := rfl
theorem T_opt_right : T n_opt_right = some (.code f_opt_right) := rfl
theorem T_slices_ContainsFunc_int_int : T n_slices_ContainsFunc_int_int = some (.code f_slices_ContainsFunc_int_int) := rfl
theorem T_opt_Dead_1 : T n_opt_Dead_1 = some (.code f_opt_Dead_1) := rfl
theorem T_opt_sure : T n_opt_sure = some (.code f_opt_sure) := rfl
theorem T_slices_Reverse_ir_Op_ir_Op : T n_slices_Reverse_ir_Op_ir_Op = some (.code f_slices_Reverse_ir_Op_ir_Op) := rfl
theorem T_opt_facts_fold : T n_opt_facts_fold = some (.code f_opt_facts_fold) := rfl
theorem T_opt_facts_done : T n_opt_facts_done = some (.code f_opt_facts_done) := rfl
theorem T_pianolalaw20_cell : T n_pianolalaw20_cell = some (.code f_pianolalaw20_cell) := rfl
theorem T_slices_IndexFunc_ir_Op_ir_Op : T n_slices_IndexFunc_ir_Op_ir_Op = some (.code f_slices_IndexFunc_ir_Op_ir_Op) := rfl
theorem T_word_Mul : T n_word_Mul = some (.code f_word_Mul) := rfl
theorem T_word_Div : T n_word_Div = some (.code f_word_Div) := rfl
theorem T_ir_of : T n_ir_of = some (.code f_ir_of) := rfl
theorem T_pianolaref18_sorted : T n_pianolaref18_sorted = some (.code f_pianolaref18_sorted) := rfl
theorem T_pianolaref18_One : T n_pianolaref18_One = some (.code f_pianolaref18_One) := rfl
theorem T_slices_pdqsortOrdered_int : T n_slices_pdqsortOrdered_int = some (.code f_slices_pdqsortOrdered_int) := rfl
theorem T_math_bits_Len : T n_math_bits_Len = some (.code f_math_bits_Len) := rfl
theorem T_slices_IndexFunc_int_int : T n_slices_IndexFunc_int_int = some (.code f_slices_IndexFunc_int_int) := rfl
theorem T_opt_facts_knows : T n_opt_facts_knows = some (.code f_opt_facts_knows) := rfl
theorem T_word_Sar : T n_word_Sar = some (.code f_word_Sar) := rfl
theorem T_ir_one : T n_ir_one = some (.code f_ir_one) := rfl
theorem T_word_Less : T n_word_Less = some (.code f_word_Less) := rfl
theorem T_word_Clz : T n_word_Clz = some (.code f_word_Clz) := rfl
theorem T_word_Clo : T n_word_Clo = some (.code f_word_Clo) := rfl
theorem T_pianolaref1_Sar : T n_pianolaref1_Sar = some (.code f_pianolaref1_Sar) := rfl
theorem T_pianolaref18_bit : T n_pianolaref18_bit = some (.code f_pianolaref18_bit) := rfl
theorem T_pianolaref1_Less : T n_pianolaref1_Less = some (.code f_pianolaref1_Less) := rfl
theorem T_pianolaref1_Mul : T n_pianolaref1_Mul = some (.code f_pianolaref1_Mul) := rfl
theorem T_pianolaref1_Clz : T n_pianolaref1_Clz = some (.code f_pianolaref1_Clz) := rfl
theorem T_pianolaref1_Clo : T n_pianolaref1_Clo = some (.code f_pianolaref1_Clo) := rfl
theorem T_pianolaref1_Div : T n_pianolaref1_Div = some (.code f_pianolaref1_Div) := rfl
theorem T_slices_insertionSortOrdered_int : T n_slices_insertionSortOrdered_int = some (.code f_slices_insertionSortOrdered_int) := rfl
theorem T_slices_heapSortOrdered_int : T n_slices_heapSortOrdered_int = some (.code f_slices_heapSortOrdered_int) := rfl
theorem T_slices_breakPatternsOrdered_int : T n_slices_breakPatternsOrdered_int = some (.code f_slices_breakPatternsOrdered_int) := rfl
theorem T_slices_choosePivotOrdered_int : T n_slices_choosePivotOrdered_int = some (.code f_slices_choosePivotOrdered_int) := rfl
theorem T_slices_reverseRangeOrdered_int : T n_slices_reverseRangeOrdered_int = some (.code f_slices_reverseRangeOrdered_int) := rfl
theorem T_slices_partialInsertionSortOrdered_int : T n_slices_partialInsertionSortOrdered_int = some (.code f_slices_partialInsertionSortOrdered_int) := rfl
theorem T_cmp_Less_int : T n_cmp_Less_int = some (.code f_cmp_Less_int) := rfl
theorem T_slices_partitionEqualOrdered_int : T n_slices_partitionEqualOrdered_int = some (.code f_slices_partitionEqualOrdered_int) := rfl
theorem T_slices_partitionOrdered_int : T n_slices_partitionOrdered_int = some (.code f_slices_partitionOrdered_int) := rfl
theorem T_math_bits_Len32 : T n_math_bits_Len32 = some (.code f_math_bits_Len32) := rfl
theorem T_math_bits_Len64 : T n_math_bits_Len64 = some (.code f_math_bits_Len64) := rfl
theorem T_math_bits_LeadingZeros32 : T n_math_bits_LeadingZeros32 = some (.code f_math_bits_LeadingZeros32) := rfl
theorem T_pianolaref1_wide : T n_pianolaref1_wide = some (.code f_pianolaref1_wide) := rfl
theorem T_slices_siftDownOrdered_int : T n_slices_siftDownOrdered_int = some (.code f_slices_siftDownOrdered_int) := rfl
theorem T_slices_nextPowerOfTwo : T n_slices_nextPowerOfTwo = some (.code f_slices_nextPowerOfTwo) := rfl
theorem T_slices_xorshift_Next : T n_slices_xorshift_Next = some (.code f_slices_xorshift_Next) := rfl
theorem T_slices_medianAdjacentOrdered_int : T n_slices_medianAdjacentOrdered_int = some (.code f_slices_medianAdjacentOrdered_int) := rfl
theorem T_slices_medianOrdered_int : T n_slices_medianOrdered_int = some (.code f_slices_medianOrdered_int) := rfl
theorem T_cmp_isNaN_int : T n_cmp_isNaN_int = some (.code f_cmp_isNaN_int) := rfl
theorem T_slices_order2Ordered_int : T n_slices_order2Ordered_int = some (.code f_slices_order2Ordered_int) := rfl
section
variable {h : Hp} {q : Value → Hp → Prop} {l : List Value}
@[simp] def g0_pianolalaw18_IrRows := G_unf c0_pianolalaw18_IrRows.eq_1
@[simp] def g1_pianolalaw18_IrRows := G_unf c1_pianolalaw18_IrRows.eq_1
@[simp] def g2_pianolalaw18_IrRows := G_unf c2_pianolalaw18_IrRows.eq_1
@[simp] def g_pianolalaw18_IrRows := G_unf c_pianolalaw18_IrRows.eq_1
theorem w_pianolalaw18_IrRows : WC T n_pianolalaw18_IrRows l h q ↔ G T (fin [.t 6] (some []) h.next q) c_pianolalaw18_IrRows [] (envOf l) h := WC_G T_pianolalaw18_IrRows
@[simp] def g0_pianolalaw18_IrNumbers := G_unf c0_pianolalaw18_IrNumbers.eq_1
@[simp] def g1_pianolalaw18_IrNumbers := G_unf c1_pianolalaw18_IrNumbers.eq_1
@[simp] def g2_pianolalaw18_IrNumbers := G_unf c2_pianolalaw18_IrNumbers.eq_1
@[simp] def g3_pianolalaw18_IrNumbers := G_unf c3_pianolalaw18_IrNumbers.eq_1
@[simp] def g4_pianolalaw18_IrNumbers := G_unf c4_pianolalaw18_IrNumbers.eq_1
@[simp] def g5_pianolalaw18_IrNumbers := G_unf c5_pianolalaw18_IrNumbers.eq_1
@[simp] def g6_pianolalaw18_IrNumbers := G_unf c6_pianolalaw18_IrNumbers.eq_1
@[simp] def g7_pianolalaw18_IrNumbers := G_unf c7_pianolalaw18_IrNumbers.eq_1
@[simp] def g8_pianolalaw18_IrNumbers := G_unf c8_pianolalaw18_IrNumbers.eq_1
@[simp] def g9_pianolalaw18_IrNumbers := G_unf c9_pianolalaw18_IrNumbers.eq_1
@[simp] def g_pianolalaw18_IrNumbers := G_unf c_pianolalaw18_IrNumbers.eq_1
theorem w_pianolalaw18_IrNumbers : WC T n_pianolalaw18_IrNumbers l h q ↔ G T (fin [.t 0] (some []) h.next q) c_pianolalaw18_IrNumbers [] (envOf l) h := WC_G T_pianolalaw18_IrNumbers
@[simp] def g0_pianolalaw18_IrTells := G_unf c0_pianolalaw18_IrTells.eq_1
@[simp] def g1_pianolalaw18_IrTells := G_unf c1_pianolalaw18_IrTells.eq_1
@[simp] def g2_pianolalaw18_IrTells := G_unf c2_pianolalaw18_IrTells.eq_1
@[simp] def g3_pianolalaw18_IrTells := G_unf c3_pianolalaw18_IrTells.eq_1
@[simp] def g_pianolalaw18_IrTells := G_unf c_pianolalaw18_IrTells.eq_1
theorem w_pianolalaw18_IrTells : WC T n_pianolalaw18_IrTells l h q ↔ G T (fin [.t 4] (some []) h.next q) c_pianolalaw18_IrTells [] (envOf l) h := WC_G T_pianolalaw18_IrTells
@[simp] def g0_pianolalaw18_IrCells := G_unf c0_pianolalaw18_IrCells.eq_1
@[simp] def g1_pianolalaw18_IrCells := G_unf c1_pianolalaw18_IrCells.eq_1
@[simp] def g2_pianolalaw18_IrCells := G_unf c2_pianolalaw18_IrCells.eq_1
@[simp] def g3_pianolalaw18_IrCells := G_unf c3_pianolalaw18_IrCells.eq_1
@[simp] def g4_pianolalaw18_IrCells := G_unf c4_pianolalaw18_IrCells.eq_1
@[simp] def g5_pianolalaw18_IrCells := G_unf c5_pianolalaw18_IrCells.eq_1
@[simp] def g6_pianolalaw18_IrCells := G_unf c6_pianolalaw18_IrCells.eq_1
@[simp] def g7_pianolalaw18_IrCells := G_unf c7_pianolalaw18_IrCells.eq_1
@[simp] def g8_pianolalaw18_IrCells := G_unf c8_pianolalaw18_IrCells.eq_1
@[simp] def g9_pianolalaw18_IrCells := G_unf c9_pianolalaw18_IrCells.eq_1
@[simp] def g10_pianolalaw18_IrCells := G_unf c10_pianolalaw18_IrCells.eq_1
@[simp] def g_pianolalaw18_IrCells := G_unf c_pianolalaw18_IrCells.eq_1
theorem w_pianolalaw18_IrCells : WC T n_pianolalaw18_IrCells l h q ↔ G T (fin [.t 6] (some []) h.next q) c_pianolalaw18_IrCells [] (envOf l) h := WC_G T_pianolalaw18_IrCells
@[simp] def g0_pianolalaw20_OptNumbers := G_unf c0_pianolalaw20_OptNumbers.eq_1
@[simp] def g1_pianolalaw20_OptNumbers := G_unf c1_pianolalaw20_OptNumbers.eq_1
@[simp] def g2_pianolalaw20_OptNumbers := G_unf c2_pianolalaw20_OptNumbers.eq_1
@[simp] def g3_pianolalaw20_OptNumbers := G_unf c3_pianolalaw20_OptNumbers.eq_1
@[simp] def g4_pianolalaw20_OptNumbers := G_unf c4_pianolalaw20_OptNumbers.eq_1
@[simp] def g5_pianolalaw20_OptNumbers := G_unf c5_pianolalaw20_OptNumbers.eq_1
@[simp] def g6_pianolalaw20_OptNumbers := G_unf c6_pianolalaw20_OptNumbers.eq_1
@[simp] def g7_pianolalaw20_OptNumbers := G_unf c7_pianolalaw20_OptNumbers.eq_1
@[simp] def g8_pianolalaw20_OptNumbers := G_unf c8_pianolalaw20_OptNumbers.eq_1
@[simp] def g9_pianolalaw20_OptNumbers := G_unf c9_pianolalaw20_OptNumbers.eq_1
@[simp] def g10_pianolalaw20_OptNumbers := G_unf c10_pianolalaw20_OptNumbers.eq_1
@[simp] def g_pianolalaw20_OptNumbers := G_unf c_pianolalaw20_OptNumbers.eq_1
theorem w_pianolalaw20_OptNumbers : WC T n_pianolalaw20_OptNumbers l h q ↔ G T (fin [.t 0] (some []) h.next q) c_pianolalaw20_OptNumbers [] (envOf l) h := WC_G T_pianolalaw20_OptNumbers
@[simp] def g0_pianolalaw20_OptSame := G_unf c0_pianolalaw20_OptSame.eq_1
@[simp] def g_pianolalaw20_OptSame := G_unf c_pianolalaw20_OptSame.eq_1
theorem w_pianolalaw20_OptSame : WC T n_pianolalaw20_OptSame l h q ↔ G T (fin [.t 4] (some []) h.next q) c_pianolalaw20_OptSame [] (envOf l) h := WC_G T_pianolalaw20_OptSame
@[simp] def g0_pianolalaw20_OptDead := G_unf c0_pianolalaw20_OptDead.eq_1
@[simp] def g_pianolalaw20_OptDead := G_unf c_pianolalaw20_OptDead.eq_1
theorem w_pianolalaw20_OptDead : WC T n_pianolalaw20_OptDead l h q ↔ G T (fin [.t 2] (some []) h.next q) c_pianolalaw20_OptDead [] (envOf l) h := WC_G T_pianolalaw20_OptDead
@[simp] def g0_pianolalaw20_OptFolds := G_unf c0_pianolalaw20_OptFolds.eq_1
@[simp] def g1_pianolalaw20_OptFolds := G_unf c1_pianolalaw20_OptFolds.eq_1
@[simp] def g2_pianolalaw20_OptFolds := G_unf c2_pianolalaw20_OptFolds.eq_1
@[simp] def g3_pianolalaw20_OptFolds := G_unf c3_pianolalaw20_OptFolds.eq_1
@[simp] def g4_pianolalaw20_OptFolds := G_unf c4_pianolalaw20_OptFolds.eq_1
@[simp] def g5_pianolalaw20_OptFolds := G_unf c5_pianolalaw20_OptFolds.eq_1
@[simp] def g6_pianolalaw20_OptFolds := G_unf c6_pianolalaw20_OptFolds.eq_1
@[simp] def g7_pianolalaw20_OptFolds := G_unf c7_pianolalaw20_OptFolds.eq_1
@[simp] def g8_pianolalaw20_OptFolds := G_unf c8_pianolalaw20_OptFolds.eq_1
@[simp] def g9_pianolalaw20_OptFolds := G_unf c9_pianolalaw20_OptFolds.eq_1
@[simp] def g10_pianolalaw20_OptFolds := G_unf c10_pianolalaw20_OptFolds.eq_1
@[simp] def g_pianolalaw20_OptFolds := G_unf c_pianolalaw20_OptFolds.eq_1
theorem w_pianolalaw20_OptFolds : WC T n_pianolalaw20_OptFolds l h q ↔ G T (fin [.t 4] (some []) h.next q) c_pianolalaw20_OptFolds [] (envOf l) h := WC_G T_pianolalaw20_OptFolds
@[simp] def g0_pianolalaw20_OptLifts := G_unf c0_pianolalaw20_OptLifts.eq_1
@[simp] def g1_pianolalaw20_OptLifts := G_unf c1_pianolalaw20_OptLifts.eq_1
@[simp] def g2_pianolalaw20_OptLifts := G_unf c2_pianolalaw20_OptLifts.eq_1
@[simp] def g3_pianolalaw20_OptLifts := G_unf c3_pianolalaw20_OptLifts.eq_1
@[simp] def g_pianolalaw20_OptLifts := G_unf c_pianolalaw20_OptLifts.eq_1
theorem w_pianolalaw20_OptLifts : WC T n_pianolalaw20_OptLifts l h q ↔ G T (fin [.t 6] (some []) h.next q) c_pianolalaw20_OptLifts [] (envOf l) h := WC_G T_pianolalaw20_OptLifts
@[simp] def g0_pianolalaw18_near := G_unf c0_pianolalaw18_near.eq_1
@[simp] def g1_pianolalaw18_near := G_unf c1_pianolalaw18_near.eq_1
@[simp] def g2_pianolalaw18_near := G_unf c2_pianolalaw18_near.eq_1
@[simp] def g_pianolalaw18_near := G_unf c_pianolalaw18_near.eq_1
theorem w_pianolalaw18_near : WC T n_pianolalaw18_near l h q ↔ G T (fin [.t 4] (some []) h.next q) c_pianolalaw18_near [] (envOf l) h := WC_G T_pianolalaw18_near
@[simp] def g0_pianolalaw18_regs := G_unf c0_pianolalaw18_regs.eq_1
@[simp] def g1_pianolalaw18_regs := G_unf c1_pianolalaw18_regs.eq_1
@[simp] def g_pianolalaw18_regs := G_unf c_pianolalaw18_regs.eq_1
theorem w_pianolalaw18_regs : WC T n_pianolalaw18_regs l h q ↔ G T (fin [.ldn 40 2] (some []) h.next q) c_pianolalaw18_regs [] (envOf l) h := WC_G T_pianolalaw18_regs
@[simp] def g0_pianolabook_Within := G_unf c0_pianolabook_Within.eq_1
@[simp] def g1_pianolabook_Within := G_unf c1_pianolabook_Within.eq_1
@[simp] def g_pianolabook_Within := G_unf c_pianolabook_Within.eq_1
theorem w_pianolabook_Within : WC T n_pianolabook_Within l h q ↔ G T (fin [.t 6] (some []) h.next q) c_pianolabook_Within [] (envOf l) h := WC_G T_pianolabook_Within
@[simp] def g0_ir_Run := G_unf c0_ir_Run.eq_1
@[simp] def g1_ir_Run := G_unf c1_ir_Run.eq_1
@[simp] def g2_ir_Run := G_unf c2_ir_Run.eq_1
@[simp] def g3_ir_Run := G_unf c3_ir_Run.eq_1
@[simp] def g_ir_Run := G_unf c_ir_Run.eq_1
theorem w_ir_Run : WC T n_ir_Run l h q ↔ G T (fin [.t 4] (some []) h.next q) c_ir_Run [] (envOf l) h := WC_G T_ir_Run
@[simp] def g0_pianolalaw18_known := G_unf c0_pianolalaw18_known.eq_1
@[simp] def g1_pianolalaw18_known := G_unf c1_pianolalaw18_known.eq_1
@[simp] def g_pianolalaw18_known := G_unf c_pianolalaw18_known.eq_1
theorem w_pianolalaw18_known : WC T n_pianolalaw18_known l h q ↔ G T (fin [.t 0] (some []) h.next q) c_pianolalaw18_known [] (envOf l) h := WC_G T_pianolalaw18_known
@[simp] def g0_pianolalaw18_tells := G_unf c0_pianolalaw18_tells.eq_1
@[simp] def g_pianolalaw18_tells := G_unf c_pianolalaw18_tells.eq_1
theorem w_pianolalaw18_tells : WC T n_pianolalaw18_tells l h q ↔ G T (fin [.t 2] (some []) h.next q) c_pianolalaw18_tells [] (envOf l) h := WC_G T_pianolalaw18_tells
@[simp] def g0_pianolalaw18_runs := G_unf c0_pianolalaw18_runs.eq_1
@[simp] def g1_pianolalaw18_runs := G_unf c1_pianolalaw18_runs.eq_1
@[simp] def g_pianolalaw18_runs := G_unf c_pianolalaw18_runs.eq_1
theorem w_pianolalaw18_runs : WC T n_pianolalaw18_runs l h q ↔ G T (fin [.t 4] (some []) h.next q) c_pianolalaw18_runs [] (envOf l) h := WC_G T_pianolalaw18_runs
@[simp] def g0_ir_Reads := G_unf c0_ir_Reads.eq_1
@[simp] def g1_ir_Reads := G_unf c1_ir_Reads.eq_1
@[simp] def g2_ir_Reads := G_unf c2_ir_Reads.eq_1
@[simp] def g3_ir_Reads := G_unf c3_ir_Reads.eq_1
@[simp] def g4_ir_Reads := G_unf c4_ir_Reads.eq_1
@[simp] def g_ir_Reads := G_unf c_ir_Reads.eq_1
theorem w_ir_Reads : WC T n_ir_Reads l h q ↔ G T (fin [.t 2] (some []) h.next q) c_ir_Reads [] (envOf l) h := WC_G T_ir_Reads
@[simp] def g0_ir_Writes := G_unf c0_ir_Writes.eq_1
@[simp] def g1_ir_Writes := G_unf c1_ir_Writes.eq_1
@[simp] def g2_ir_Writes := G_unf c2_ir_Writes.eq_1
@[simp] def g_ir_Writes := G_unf c_ir_Writes.eq_1
theorem w_ir_Writes : WC T n_ir_Writes l h q ↔ G T (fin [.t 2] (some []) h.next q) c_ir_Writes [] (envOf l) h := WC_G T_ir_Writes
@[simp] def g0_pianolalaw20_same := G_unf c0_pianolalaw20_same.eq_1
@[simp] def g1_pianolalaw20_same := G_unf c1_pianolalaw20_same.eq_1
@[simp] def g_pianolalaw20_same := G_unf c_pianolalaw20_same.eq_1
theorem w_pianolalaw20_same : WC T n_pianolalaw20_same l h q ↔ G T (fin [.t 6] (some []) h.next q) c_pianolalaw20_same [] (envOf l) h := WC_G T_pianolalaw20_same
@[simp] def g_opt_Opt := G_unf c_opt_Opt.eq_1
theorem w_opt_Opt : WC T n_opt_Opt l h q ↔ G T (fin [.t 2] (some []) h.next q) c_opt_Opt [] (envOf l) h := WC_G T_opt_Opt
@[simp] def g0_opt_Dead := G_unf c0_opt_Dead.eq_1
@[simp] def g1_opt_Dead := G_unf c1_opt_Dead.eq_1
@[simp] def g2_opt_Dead := G_unf c2_opt_Dead.eq_1
@[simp] def g3_opt_Dead := G_unf c3_opt_Dead.eq_1
@[simp] def g4_opt_Dead := G_unf c4_opt_Dead.eq_1
@[simp] def g5_opt_Dead := G_unf c5_opt_Dead.eq_1
@[simp] def g6_opt_Dead := G_unf c6_opt_Dead.eq_1
@[simp] def g7_opt_Dead := G_unf c7_opt_Dead.eq_1
@[simp] def g8_opt_Dead := G_unf c8_opt_Dead.eq_1
@[simp] def g9_opt_Dead := G_unf c9_opt_Dead.eq_1
@[simp] def g10_opt_Dead := G_unf c10_opt_Dead.eq_1
@[simp] def g11_opt_Dead := G_unf c11_opt_Dead.eq_1
@[simp] def g_opt_Dead := G_unf c_opt_Dead.eq_1
theorem w_opt_Dead : WC T n_opt_Dead l h q ↔ G T (fin [.t 2] (some []) h.next q) c_opt_Dead [] (envOf l) h := WC_G T_opt_Dead
@[simp] def g0_opt_Fold := G_unf c0_opt_Fold.eq_1
@[simp] def g1_opt_Fold := G_unf c1_opt_Fold.eq_1
@[simp] def g2_opt_Fold := G_unf c2_opt_Fold.eq_1
@[simp] def g3_opt_Fold := G_unf c3_opt_Fold.eq_1
@[simp] def g4_opt_Fold := G_unf c4_opt_Fold.eq_1
@[simp] def g5_opt_Fold := G_unf c5_opt_Fold.eq_1
@[simp] def g_opt_Fold := G_unf c_opt_Fold.eq_1
theorem w_opt_Fold : WC T n_opt_Fold l h q ↔ G T (fin [.t 2] (some []) h.next q) c_opt_Fold [] (envOf l) h := WC_G T_opt_Fold
@[simp] def g0_pianolalaw20_live := G_unf c0_pianolalaw20_live.eq_1
@[simp] def g1_pianolalaw20_live := G_unf c1_pianolalaw20_live.eq_1
@[simp] def g2_pianolalaw20_live := G_unf c2_pianolalaw20_live.eq_1
@[simp] def g3_pianolalaw20_live := G_unf c3_pianolalaw20_live.eq_1
@[simp] def g4_pianolalaw20_live := G_unf c4_pianolalaw20_live.eq_1
@[simp] def g5_pianolalaw20_live := G_unf c5_pianolalaw20_live.eq_1
@[simp] def g6_pianolalaw20_live := G_unf c6_pianolalaw20_live.eq_1
@[simp] def g7_pianolalaw20_live := G_unf c7_pianolalaw20_live.eq_1
@[simp] def g8_pianolalaw20_live := G_unf c8_pianolalaw20_live.eq_1
@[simp] def g9_pianolalaw20_live := G_unf c9_pianolalaw20_live.eq_1
@[simp] def g10_pianolalaw20_live := G_unf c10_pianolalaw20_live.eq_1
@[simp] def g11_pianolalaw20_live := G_unf c11_pianolalaw20_live.eq_1
@[simp] def g_pianolalaw20_live := G_unf c_pianolalaw20_live.eq_1
theorem w_pianolalaw20_live : WC T n_pianolalaw20_live l h q ↔ G T (fin [.t 2] (some []) h.next q) c_pianolalaw20_live [] (envOf l) h := WC_G T_pianolalaw20_live
@[simp] def g0_pianolalaw20_known := G_unf c0_pianolalaw20_known.eq_1
@[simp] def g1_pianolalaw20_known := G_unf c1_pianolalaw20_known.eq_1
@[simp] def g2_pianolalaw20_known := G_unf c2_pianolalaw20_known.eq_1
@[simp] def g_pianolalaw20_known := G_unf c_pianolalaw20_known.eq_1
theorem w_pianolalaw20_known : WC T n_pianolalaw20_known l h q ↔ G T (fin [.t 0] (some []) h.next q) c_pianolalaw20_known [] (envOf l) h := WC_G T_pianolalaw20_known
@[simp] def g0_pianolalaw20_near := G_unf c0_pianolalaw20_near.eq_1
@[simp] def g1_pianolalaw20_near := G_unf c1_pianolalaw20_near.eq_1
@[simp] def g2_pianolalaw20_near := G_unf c2_pianolalaw20_near.eq_1
@[simp] def g3_pianolalaw20_near := G_unf c3_pianolalaw20_near.eq_1
@[simp] def g_pianolalaw20_near := G_unf c_pianolalaw20_near.eq_1
theorem w_pianolalaw20_near : WC T n_pianolalaw20_near l h q ↔ G T (fin [.t 4] (some []) h.next q) c_pianolalaw20_near [] (envOf l) h := WC_G T_pianolalaw20_near
@[simp] def g0_pianolabook_Same_ir_Op := G_unf c0_pianolabook_Same_ir_Op.eq_1
@[simp] def g1_pianolabook_Same_ir_Op := G_unf c1_pianolabook_Same_ir_Op.eq_1
@[simp] def g2_pianolabook_Same_ir_Op := G_unf c2_pianolabook_Same_ir_Op.eq_1
@[simp] def g_pianolabook_Same_ir_Op := G_unf c_pianolabook_Same_ir_Op.eq_1
theorem w_pianolabook_Same_ir_Op : WC T n_pianolabook_Same_ir_Op l h q ↔ G T (fin [.t 4] (some []) h.next q) c_pianolabook_Same_ir_Op [] (envOf l) h := WC_G T_pianolabook_Same_ir_Op
@[simp] def g0_pianolalaw18_cell := G_unf c0_pianolalaw18_cell.eq_1
@[simp] def g1_pianolalaw18_cell := G_unf c1_pianolalaw18_cell.eq_1
@[simp] def g_pianolalaw18_cell := G_unf c_pianolalaw18_cell.eq_1
theorem w_pianolalaw18_cell : WC T n_pianolalaw18_cell l h q ↔ G T (fin [.t 2] (some []) h.next q) c_pianolalaw18_cell [] (envOf l) h := WC_G T_pianolalaw18_cell
@[simp] def g_slices_ContainsFunc_ir_Op_ir_Op := G_unf c_slices_ContainsFunc_ir_Op_ir_Op.eq_1
theorem w_slices_ContainsFunc_ir_Op_ir_Op : WC T n_slices_ContainsFunc_ir_Op_ir_Op l h q ↔ G T (fin [.t 4] (some []) h.next q) c_slices_ContainsFunc_ir_Op_ir_Op [] (envOf l) h := WC_G T_slices_ContainsFunc_ir_Op_ir_Op
@[simp] def g_ir_Run_1 := G_unf c_ir_Run_1.eq_1
theorem w_ir_Run_1 : WC T n_ir_Run_1 l h q ↔ G T (fin [.t 2] (some []) h.next q) c_ir_Run_1 [] (envOf l) h := WC_G T_ir_Run_1
@[simp] def g0_ir_Right := G_unf c0_ir_Right.eq_1
@[simp] def g1_ir_Right := G_unf c1_ir_Right.eq_1
@[simp] def g2_ir_Right := G_unf c2_ir_Right.eq_1
@[simp] def g3_ir_Right := G_unf c3_ir_Right.eq_1
@[simp] def g_ir_Right := G_unf c_ir_Right.eq_1
theorem w_ir_Right : WC T n_ir_Right l h q ↔ G T (fin [.t 2] (some []) h.next q) c_ir_Right [] (envOf l) h := WC_G T_ir_Right
@[simp] def g0_ir_Regs_do := G_unf c0_ir_Regs_do.eq_1
@[simp] def g1_ir_Regs_do := G_unf c1_ir_Regs_do.eq_1
@[simp] def g2_ir_Regs_do := G_unf c2_ir_Regs_do.eq_1
@[simp] def g3_ir_Regs_do := G_unf c3_ir_Regs_do.eq_1
@[simp] def g4_ir_Regs_do := G_unf c4_ir_Regs_do.eq_1
@[simp] def g5_ir_Regs_do := G_unf c5_ir_Regs_do.eq_1
@[simp] def g6_ir_Regs_do := G_unf c6_ir_Regs_do.eq_1
@[simp] def g_ir_Regs_do := G_unf c_ir_Regs_do.eq_1
theorem w_ir_Regs_do : WC T n_ir_Regs_do l h q ↔ G T (fin [] (some []) h.next q) c_ir_Regs_do [] (envOf l) h := WC_G T_ir_Regs_do
@[simp] def g0_pianolabook_Same_int := G_unf c0_pianolabook_Same_int.eq_1
@[simp] def g1_pianolabook_Same_int := G_unf c1_pianolabook_Same_int.eq_1
@[simp] def g2_pianolabook_Same_int := G_unf c2_pianolabook_Same_int.eq_1
@[simp] def g_pianolabook_Same_int := G_unf c_pianolabook_Same_int.eq_1
theorem w_pianolabook_Same_int : WC T n_pianolabook_Same_int l h q ↔ G T (fin [.t 4] (some []) h.next q) c_pianolabook_Same_int [] (envOf l) h := WC_G T_pianolabook_Same_int
@[simp] def g0_pianolaref18_Right := G_unf c0_pianolaref18_Right.eq_1
@[simp] def g_pianolaref18_Right := G_unf c_pianolaref18_Right.eq_1
theorem w_pianolaref18_Right : WC T n_pianolaref18_Right l h q ↔ G T (fin [.t 2] (some []) h.next q) c_pianolaref18_Right [] (envOf l) h := WC_G T_pianolaref18_Right
@[simp] def g0_pianolaref18_Reads := G_unf c0_pianolaref18_Reads.eq_1
@[simp] def g1_pianolaref18_Reads := G_unf c1_pianolaref18_Reads.eq_1
@[simp] def g2_pianolaref18_Reads := G_unf c2_pianolaref18_Reads.eq_1
@[simp] def g3_pianolaref18_Reads := G_unf c3_pianolaref18_Reads.eq_1
@[simp] def g4_pianolaref18_Reads := G_unf c4_pianolaref18_Reads.eq_1
@[simp] def g_pianolaref18_Reads := G_unf c_pianolaref18_Reads.eq_1
theorem w_pianolaref18_Reads : WC T n_pianolaref18_Reads l h q ↔ G T (fin [.t 2] (some []) h.next q) c_pianolaref18_Reads [] (envOf l) h := WC_G T_pianolaref18_Reads
@[simp] def g0_pianolaref18_Writes := G_unf c0_pianolaref18_Writes.eq_1
@[simp] def g1_pianolaref18_Writes := G_unf c1_pianolaref18_Writes.eq_1
@[simp] def g2_pianolaref18_Writes := G_unf c2_pianolaref18_Writes.eq_1
@[simp] def g_pianolaref18_Writes := G_unf c_pianolaref18_Writes.eq_1
theorem w_pianolaref18_Writes : WC T n_pianolaref18_Writes l h q ↔ G T (fin [.t 2] (some []) h.next q) c_pianolaref18_Writes [] (envOf l) h := WC_G T_pianolaref18_Writes
@[simp] def g0_pianolaref18_Run := G_unf c0_pianolaref18_Run.eq_1
@[simp] def g1_pianolaref18_Run := G_unf c1_pianolaref18_Run.eq_1
@[simp] def g2_pianolaref18_Run := G_unf c2_pianolaref18_Run.eq_1
@[simp] def g3_pianolaref18_Run := G_unf c3_pianolaref18_Run.eq_1
@[simp] def g_pianolaref18_Run := G_unf c_pianolaref18_Run.eq_1
theorem w_pianolaref18_Run : WC T n_pianolaref18_Run l h q ↔ G T (fin [.t 4] (some []) h.next q) c_pianolaref18_Run [] (envOf l) h := WC_G T_pianolaref18_Run
@[simp] def g0_pianolabook_Same_uint32 := G_unf c0_pianolabook_Same_uint32.eq_1
@[simp] def g1_pianolabook_Same_uint32 := G_unf c1_pianolabook_Same_uint32.eq_1
@[simp] def g2_pianolabook_Same_uint32 := G_unf c2_pianolabook_Same_uint32.eq_1
@[simp] def g_pianolabook_Same_uint32 := G_unf c_pianolabook_Same_uint32.eq_1
theorem w_pianolabook_Same_uint32 : WC T n_pianolabook_Same_uint32 l h q ↔ G T (fin [.t 4] (some []) h.next q) c_pianolabook_Same_uint32 [] (envOf l) h := WC_G T_pianolabook_Same_uint32
@[simp] def g_slices_Sort_int_int := G_unf c_slices_Sort_int_int.eq_1
theorem w_slices_Sort_int_int : WC T n_slices_Sort_int_int l h q ↔ G T (fin [] (some []) h.next q) c_slices_Sort_int_int [] (envOf l) h := WC_G T_slices_Sort_int_int
@[simp] def g0_slices_Compact_int_int := G_unf c0_slices_Compact_int_int.eq_1
@[simp] def g1_slices_Compact_int_int := G_unf c1_slices_Compact_int_int.eq_1
@[simp] def g2_slices_Compact_int_int := G_unf c2_slices_Compact_int_int.eq_1
@[simp] def g3_slices_Compact_int_int := G_unf c3_slices_Compact_int_int.eq_1
@[simp] def g4_slices_Compact_int_int := G_unf c4_slices_Compact_int_int.eq_1
@[simp] def g5_slices_Compact_int_int := G_unf c5_slices_Compact_int_int.eq_1
@[simp] def g6_slices_Compact_int_int := G_unf c6_slices_Compact_int_int.eq_1
@[simp] def g_slices_Compact_int_int := G_unf c_slices_Compact_int_int.eq_1
theorem w_slices_Compact_int_int : WC T n_slices_Compact_int_int l h q ↔ G T (fin [.t 2] (some []) h.next q) c_slices_Compact_int_int [] (envOf l) h := WC_G T_slices_Compact_int_int
@[simp] def g0_pianolalaw20_leaves := G_unf c0_pianolalaw20_leaves.eq_1
@[simp] def g1_pianolalaw20_leaves := G_unf c1_pianolalaw20_leaves.eq_1
@[simp] def g2_pianolalaw20_leaves := G_unf c2_pianolalaw20_leaves.eq_1
@[simp] def g_pianolalaw20_leaves := G_unf c_pianolalaw20_leaves.eq_1
theorem w_pianolalaw20_leaves : WC T n_pianolalaw20_leaves l h q ↔ G T (fin [.t 4, .t 5] (some []) h.next q) c_pianolalaw20_leaves [] (envOf l) h := WC_G T_pianolalaw20_leaves
@[simp] def g0_opt_right := G_unf c0_opt_right.eq_1
@[simp] def g1_opt_right := G_unf c1_opt_right.eq_1
@[simp] def g_opt_right := G_unf c_opt_right.eq_1
theorem w_opt_right : WC T n_opt_right l h q ↔ G T (fin [.t 2] (some []) h.next q) c_opt_right [] (envOf l) h := WC_G T_opt_right
@[simp] def g_slices_ContainsFunc_int_int := G_unf c_slices_ContainsFunc_int_int.eq_1
theorem w_slices_ContainsFunc_int_int : WC T n_slices_ContainsFunc_int_int l h q ↔ G T (fin [.t 4] (some []) h.next q) c_slices_ContainsFunc_int_int [] (envOf l) h := WC_G T_slices_ContainsFunc_int_int
@[simp] def g_opt_Dead_1 := G_unf c_opt_Dead_1.eq_1
theorem w_opt_Dead_1 : WC T n_opt_Dead_1 l h q ↔ G T (fin [.t 3] (some []) h.next q) c_opt_Dead_1 [] (envOf l) h := WC_G T_opt_Dead_1
@[simp] def g0_opt_sure := G_unf c0_opt_sure.eq_1
@[simp] def g_opt_sure := G_unf c_opt_sure.eq_1
theorem w_opt_sure : WC T n_opt_sure l h q ↔ G T (fin [.t 2] (some []) h.next q) c_opt_sure [] (envOf l) h := WC_G T_opt_sure
@[simp] def g0_slices_Reverse_ir_Op_ir_Op := G_unf c0_slices_Reverse_ir_Op_ir_Op.eq_1
@[simp] def g1_slices_Reverse_ir_Op_ir_Op := G_unf c1_slices_Reverse_ir_Op_ir_Op.eq_1
@[simp] def g_slices_Reverse_ir_Op_ir_Op := G_unf c_slices_Reverse_ir_Op_ir_Op.eq_1
theorem w_slices_Reverse_ir_Op_ir_Op : WC T n_slices_Reverse_ir_Op_ir_Op l h q ↔ G T (fin [] (some []) h.next q) c_slices_Reverse_ir_Op_ir_Op [] (envOf l) h := WC_G T_slices_Reverse_ir_Op_ir_Op
@[simp] def g0_opt_facts_fold := G_unf c0_opt_facts_fold.eq_1
@[simp] def g1_opt_facts_fold := G_unf c1_opt_facts_fold.eq_1
@[simp] def g2_opt_facts_fold := G_unf c2_opt_facts_fold.eq_1
@[simp] def g3_opt_facts_fold := G_unf c3_opt_facts_fold.eq_1
@[simp] def g4_opt_facts_fold := G_unf c4_opt_facts_fold.eq_1
@[simp] def g_opt_facts_fold := G_unf c_opt_facts_fold.eq_1
theorem w_opt_facts_fold : WC T n_opt_facts_fold l h q ↔ G T (fin [.ldn 5 4, .t 5] (some []) h.next q) c_opt_facts_fold [] (envOf l) h := WC_G T_opt_facts_fold
@[simp] def g0_opt_facts_done := G_unf c0_opt_facts_done.eq_1
@[simp] def g1_opt_facts_done := G_unf c1_opt_facts_done.eq_1
@[simp] def g2_opt_facts_done := G_unf c2_opt_facts_done.eq_1
@[simp] def g3_opt_facts_done := G_unf c3_opt_facts_done.eq_1
@[simp] def g_opt_facts_done := G_unf c_opt_facts_done.eq_1
theorem w_opt_facts_done : WC T n_opt_facts_done l h q ↔ G T (fin [] (some []) h.next q) c_opt_facts_done [] (envOf l) h := WC_G T_opt_facts_done
@[simp] def g0_pianolalaw20_cell := G_unf c0_pianolalaw20_cell.eq_1
@[simp] def g_pianolalaw20_cell := G_unf c_pianolalaw20_cell.eq_1
theorem w_pianolalaw20_cell : WC T n_pianolalaw20_cell l h q ↔ G T (fin [.t 2] (some []) h.next q) c_pianolalaw20_cell [] (envOf l) h := WC_G T_pianolalaw20_cell
@[simp] def g0_slices_IndexFunc_ir_Op_ir_Op := G_unf c0_slices_IndexFunc_ir_Op_ir_Op.eq_1
@[simp] def g1_slices_IndexFunc_ir_Op_ir_Op := G_unf c1_slices_IndexFunc_ir_Op_ir_Op.eq_1
@[simp] def g_slices_IndexFunc_ir_Op_ir_Op := G_unf c_slices_IndexFunc_ir_Op_ir_Op.eq_1
theorem w_slices_IndexFunc_ir_Op_ir_Op : WC T n_slices_IndexFunc_ir_Op_ir_Op l h q ↔ G T (fin [.t 4] (some []) h.next q) c_slices_IndexFunc_ir_Op_ir_Op [] (envOf l) h := WC_G T_slices_IndexFunc_ir_Op_ir_Op
@[simp] def g0_word_Mul := G_unf c0_word_Mul.eq_1
@[simp] def g1_word_Mul := G_unf c1_word_Mul.eq_1
@[simp] def g_word_Mul := G_unf c_word_Mul.eq_1
theorem w_word_Mul : WC T n_word_Mul l h q ↔ G T (fin [.t 6, .t 7] (some []) h.next q) c_word_Mul [] (envOf l) h := WC_G T_word_Mul
@[simp] def g0_word_Div := G_unf c0_word_Div.eq_1
@[simp] def g1_word_Div := G_unf c1_word_Div.eq_1
@[simp] def g2_word_Div := G_unf c2_word_Div.eq_1
@[simp] def g_word_Div := G_unf c_word_Div.eq_1
theorem w_word_Div : WC T n_word_Div l h q ↔ G T (fin [.t 6, .t 7] (some []) h.next q) c_word_Div [] (envOf l) h := WC_G T_word_Div
@[simp] def g0_ir_of := G_unf c0_ir_of.eq_1
@[simp] def g1_ir_of := G_unf c1_ir_of.eq_1
@[simp] def g2_ir_of := G_unf c2_ir_of.eq_1
@[simp] def g3_ir_of := G_unf c3_ir_of.eq_1
@[simp] def g4_ir_of := G_unf c4_ir_of.eq_1
@[simp] def g5_ir_of := G_unf c5_ir_of.eq_1
@[simp] def g6_ir_of := G_unf c6_ir_of.eq_1
@[simp] def g7_ir_of := G_unf c7_ir_of.eq_1
@[simp] def g8_ir_of := G_unf c8_ir_of.eq_1
@[simp] def g9_ir_of := G_unf c9_ir_of.eq_1
@[simp] def g10_ir_of := G_unf c10_ir_of.eq_1
@[simp] def g_ir_of := G_unf c_ir_of.eq_1
theorem w_ir_of : WC T n_ir_of l h q ↔ G T (fin [.t 6] (some []) h.next q) c_ir_of [] (envOf l) h := WC_G T_ir_of
@[simp] def g0_pianolaref18_sorted := G_unf c0_pianolaref18_sorted.eq_1
@[simp] def g1_pianolaref18_sorted := G_unf c1_pianolaref18_sorted.eq_1
@[simp] def g2_pianolaref18_sorted := G_unf c2_pianolaref18_sorted.eq_1
@[simp] def g3_pianolaref18_sorted := G_unf c3_pianolaref18_sorted.eq_1
@[simp] def g_pianolaref18_sorted := G_unf c_pianolaref18_sorted.eq_1
theorem w_pianolaref18_sorted : WC T n_pianolaref18_sorted l h q ↔ G T (fin [.t 2] (some []) h.next q) c_pianolaref18_sorted [] (envOf l) h := WC_G T_pianolaref18_sorted
@[simp] def g0_pianolaref18_One := G_unf c0_pianolaref18_One.eq_1
@[simp] def g1_pianolaref18_One := G_unf c1_pianolaref18_One.eq_1
@[simp] def g2_pianolaref18_One := G_unf c2_pianolaref18_One.eq_1
@[simp] def g3_pianolaref18_One := G_unf c3_pianolaref18_One.eq_1
@[simp] def g4_pianolaref18_One := G_unf c4_pianolaref18_One.eq_1
@[simp] def g5_pianolaref18_One := G_unf c5_pianolaref18_One.eq_1
@[simp] def g6_pianolaref18_One := G_unf c6_pianolaref18_One.eq_1
@[simp] def g7_pianolaref18_One := G_unf c7_pianolaref18_One.eq_1
@[simp] def g8_pianolaref18_One := G_unf c8_pianolaref18_One.eq_1
@[simp] def g9_pianolaref18_One := G_unf c9_pianolaref18_One.eq_1
@[simp] def g10_pianolaref18_One := G_unf c10_pianolaref18_One.eq_1
@[simp] def g11_pianolaref18_One := G_unf c11_pianolaref18_One.eq_1
@[simp] def g12_pianolaref18_One := G_unf c12_pianolaref18_One.eq_1
@[simp] def g13_pianolaref18_One := G_unf c13_pianolaref18_One.eq_1
@[simp] def g14_pianolaref18_One := G_unf c14_pianolaref18_One.eq_1
@[simp] def g15_pianolaref18_One := G_unf c15_pianolaref18_One.eq_1
@[simp] def g16_pianolaref18_One := G_unf c16_pianolaref18_One.eq_1
@[simp] def g17_pianolaref18_One := G_unf c17_pianolaref18_One.eq_1
@[simp] def g18_pianolaref18_One := G_unf c18_pianolaref18_One.eq_1
@[simp] def g19_pianolaref18_One := G_unf c19_pianolaref18_One.eq_1
@[simp] def g_pianolaref18_One := G_unf c_pianolaref18_One.eq_1
theorem w_pianolaref18_One : WC T n_pianolaref18_One l h q ↔ G T (fin [] (some []) h.next q) c_pianolaref18_One [] (envOf l) h := WC_G T_pianolaref18_One
@[simp] def g0_slices_pdqsortOrdered_int := G_unf c0_slices_pdqsortOrdered_int.eq_1
@[simp] def g1_slices_pdqsortOrdered_int := G_unf c1_slices_pdqsortOrdered_int.eq_1
@[simp] def g2_slices_pdqsortOrdered_int := G_unf c2_slices_pdqsortOrdered_int.eq_1
@[simp] def g3_slices_pdqsortOrdered_int := G_unf c3_slices_pdqsortOrdered_int.eq_1
@[simp] def g4_slices_pdqsortOrdered_int := G_unf c4_slices_pdqsortOrdered_int.eq_1
@[simp] def g5_slices_pdqsortOrdered_int := G_unf c5_slices_pdqsortOrdered_int.eq_1
@[simp] def g6_slices_pdqsortOrdered_int := G_unf c6_slices_pdqsortOrdered_int.eq_1
@[simp] def g7_slices_pdqsortOrdered_int := G_unf c7_slices_pdqsortOrdered_int.eq_1
@[simp] def g8_slices_pdqsortOrdered_int := G_unf c8_slices_pdqsortOrdered_int.eq_1
@[simp] def g9_slices_pdqsortOrdered_int := G_unf c9_slices_pdqsortOrdered_int.eq_1
@[simp] def g10_slices_pdqsortOrdered_int := G_unf c10_slices_pdqsortOrdered_int.eq_1
@[simp] def g11_slices_pdqsortOrdered_int := G_unf c11_slices_pdqsortOrdered_int.eq_1
@[simp] def g12_slices_pdqsortOrdered_int := G_unf c12_slices_pdqsortOrdered_int.eq_1
@[simp] def g13_slices_pdqsortOrdered_int := G_unf c13_slices_pdqsortOrdered_int.eq_1
@[simp] def g14_slices_pdqsortOrdered_int := G_unf c14_slices_pdqsortOrdered_int.eq_1
@[simp] def g_slices_pdqsortOrdered_int := G_unf c_slices_pdqsortOrdered_int.eq_1
theorem w_slices_pdqsortOrdered_int : WC T n_slices_pdqsortOrdered_int l h q ↔ G T (fin [] (some []) h.next q) c_slices_pdqsortOrdered_int [] (envOf l) h := WC_G T_slices_pdqsortOrdered_int
@[simp] def g0_math_bits_Len := G_unf c0_math_bits_Len.eq_1
@[simp] def g_math_bits_Len := G_unf c_math_bits_Len.eq_1
theorem w_math_bits_Len : WC T n_math_bits_Len l h q ↔ G T (fin [.t 2] (some []) h.next q) c_math_bits_Len [] (envOf l) h := WC_G T_math_bits_Len
@[simp] def g0_slices_IndexFunc_int_int := G_unf c0_slices_IndexFunc_int_int.eq_1
@[simp] def g1_slices_IndexFunc_int_int := G_unf c1_slices_IndexFunc_int_int.eq_1
@[simp] def g_slices_IndexFunc_int_int := G_unf c_slices_IndexFunc_int_int.eq_1
theorem w_slices_IndexFunc_int_int : WC T n_slices_IndexFunc_int_int l h q ↔ G T (fin [.t 4] (some []) h.next q) c_slices_IndexFunc_int_int [] (envOf l) h := WC_G T_slices_IndexFunc_int_int
@[simp] def g0_opt_facts_knows := G_unf c0_opt_facts_knows.eq_1
@[simp] def g1_opt_facts_knows := G_unf c1_opt_facts_knows.eq_1
@[simp] def g_opt_facts_knows := G_unf c_opt_facts_knows.eq_1
theorem w_opt_facts_knows : WC T n_opt_facts_knows l h q ↔ G T (fin [.t 4] (some []) h.next q) c_opt_facts_knows [] (envOf l) h := WC_G T_opt_facts_knows
@[simp] def g_word_Sar := G_unf c_word_Sar.eq_1
theorem w_word_Sar : WC T n_word_Sar l h q ↔ G T (fin [.t 4] (some []) h.next q) c_word_Sar [] (envOf l) h := WC_G T_word_Sar
@[simp] def g_ir_one := G_unf c_ir_one.eq_1
theorem w_ir_one : WC T n_ir_one l h q ↔ G T (fin [.t 2] (some []) h.next q) c_ir_one [] (envOf l) h := WC_G T_ir_one
@[simp] def g0_word_Less := G_unf c0_word_Less.eq_1
@[simp] def g_word_Less := G_unf c_word_Less.eq_1
theorem w_word_Less : WC T n_word_Less l h q ↔ G T (fin [.t 6] (some []) h.next q) c_word_Less [] (envOf l) h := WC_G T_word_Less
@[simp] def g_word_Clz := G_unf c_word_Clz.eq_1
theorem w_word_Clz : WC T n_word_Clz l h q ↔ G T (fin [.t 2] (some []) h.next q) c_word_Clz [] (envOf l) h := WC_G T_word_Clz
@[simp] def g_word_Clo := G_unf c_word_Clo.eq_1
theorem w_word_Clo : WC T n_word_Clo l h q ↔ G T (fin [.t 2] (some []) h.next q) c_word_Clo [] (envOf l) h := WC_G T_word_Clo
@[simp] def g0_pianolaref1_Sar := G_unf c0_pianolaref1_Sar.eq_1
@[simp] def g1_pianolaref1_Sar := G_unf c1_pianolaref1_Sar.eq_1
@[simp] def g2_pianolaref1_Sar := G_unf c2_pianolaref1_Sar.eq_1
@[simp] def g_pianolaref1_Sar := G_unf c_pianolaref1_Sar.eq_1
theorem w_pianolaref1_Sar : WC T n_pianolaref1_Sar l h q ↔ G T (fin [.t 4] (some []) h.next q) c_pianolaref1_Sar [] (envOf l) h := WC_G T_pianolaref1_Sar
@[simp] def g_pianolaref18_bit := G_unf c_pianolaref18_bit.eq_1
theorem w_pianolaref18_bit : WC T n_pianolaref18_bit l h q ↔ G T (fin [.t 2] (some []) h.next q) c_pianolaref18_bit [] (envOf l) h := WC_G T_pianolaref18_bit
@[simp] def g0_pianolaref1_Less := G_unf c0_pianolaref1_Less.eq_1
@[simp] def g_pianolaref1_Less := G_unf c_pianolaref1_Less.eq_1
theorem w_pianolaref1_Less : WC T n_pianolaref1_Less l h q ↔ G T (fin [.t 6] (some []) h.next q) c_pianolaref1_Less [] (envOf l) h := WC_G T_pianolaref1_Less
@[simp] def g0_pianolaref1_Mul := G_unf c0_pianolaref1_Mul.eq_1
@[simp] def g1_pianolaref1_Mul := G_unf c1_pianolaref1_Mul.eq_1
@[simp] def g2_pianolaref1_Mul := G_unf c2_pianolaref1_Mul.eq_1
@[simp] def g_pianolaref1_Mul := G_unf c_pianolaref1_Mul.eq_1
theorem w_pianolaref1_Mul : WC T n_pianolaref1_Mul l h q ↔ G T (fin [.t 6, .t 7] (some []) h.next q) c_pianolaref1_Mul [] (envOf l) h := WC_G T_pianolaref1_Mul
@[simp] def g0_pianolaref1_Clz := G_unf c0_pianolaref1_Clz.eq_1
@[simp] def g1_pianolaref1_Clz := G_unf c1_pianolaref1_Clz.eq_1
@[simp] def g_pianolaref1_Clz := G_unf c_pianolaref1_Clz.eq_1
theorem w_pianolaref1_Clz : WC T n_pianolaref1_Clz l h q ↔ G T (fin [.t 2] (some []) h.next q) c_pianolaref1_Clz [] (envOf l) h := WC_G T_pianolaref1_Clz
@[simp] def g_pianolaref1_Clo := G_unf c_pianolaref1_Clo.eq_1
theorem w_pianolaref1_Clo : WC T n_pianolaref1_Clo l h q ↔ G T (fin [.t 2] (some []) h.next q) c_pianolaref1_Clo [] (envOf l) h := WC_G T_pianolaref1_Clo
@[simp] def g0_pianolaref1_Div := G_unf c0_pianolaref1_Div.eq_1
@[simp] def g1_pianolaref1_Div := G_unf c1_pianolaref1_Div.eq_1
@[simp] def g_pianolaref1_Div := G_unf c_pianolaref1_Div.eq_1
theorem w_pianolaref1_Div : WC T n_pianolaref1_Div l h q ↔ G T (fin [.t 6, .t 7] (some []) h.next q) c_pianolaref1_Div [] (envOf l) h := WC_G T_pianolaref1_Div
@[simp] def g0_slices_insertionSortOrdered_int := G_unf c0_slices_insertionSortOrdered_int.eq_1
@[simp] def g1_slices_insertionSortOrdered_int := G_unf c1_slices_insertionSortOrdered_int.eq_1
@[simp] def g2_slices_insertionSortOrdered_int := G_unf c2_slices_insertionSortOrdered_int.eq_1
@[simp] def g_slices_insertionSortOrdered_int := G_unf c_slices_insertionSortOrdered_int.eq_1
theorem w_slices_insertionSortOrdered_int : WC T n_slices_insertionSortOrdered_int l h q ↔ G T (fin [] (some []) h.next q) c_slices_insertionSortOrdered_int [] (envOf l) h := WC_G T_slices_insertionSortOrdered_int
@[simp] def g0_slices_heapSortOrdered_int := G_unf c0_slices_heapSortOrdered_int.eq_1
@[simp] def g1_slices_heapSortOrdered_int := G_unf c1_slices_heapSortOrdered_int.eq_1
@[simp] def g2_slices_heapSortOrdered_int := G_unf c2_slices_heapSortOrdered_int.eq_1
@[simp] def g3_slices_heapSortOrdered_int := G_unf c3_slices_heapSortOrdered_int.eq_1
@[simp] def g4_slices_heapSortOrdered_int := G_unf c4_slices_heapSortOrdered_int.eq_1
@[simp] def g_slices_heapSortOrdered_int := G_unf c_slices_heapSortOrdered_int.eq_1
theorem w_slices_heapSortOrdered_int : WC T n_slices_heapSortOrdered_int l h q ↔ G T (fin [] (some []) h.next q) c_slices_heapSortOrdered_int [] (envOf l) h := WC_G T_slices_heapSortOrdered_int
@[simp] def g0_slices_breakPatternsOrdered_int := G_unf c0_slices_breakPatternsOrdered_int.eq_1
@[simp] def g1_slices_breakPatternsOrdered_int := G_unf c1_slices_breakPatternsOrdered_int.eq_1
@[simp] def g2_slices_breakPatternsOrdered_int := G_unf c2_slices_breakPatternsOrdered_int.eq_1
@[simp] def g3_slices_breakPatternsOrdered_int := G_unf c3_slices_breakPatternsOrdered_int.eq_1
@[simp] def g4_slices_breakPatternsOrdered_int := G_unf c4_slices_breakPatternsOrdered_int.eq_1
@[simp] def g5_slices_breakPatternsOrdered_int := G_unf c5_slices_breakPatternsOrdered_int.eq_1
@[simp] def g_slices_breakPatternsOrdered_int := G_unf c_slices_breakPatternsOrdered_int.eq_1
theorem w_slices_breakPatternsOrdered_int : WC T n_slices_breakPatternsOrdered_int l h q ↔ G T (fin [] (some []) h.next q) c_slices_breakPatternsOrdered_int [] (envOf l) h := WC_G T_slices_breakPatternsOrdered_int
@[simp] def g0_slices_choosePivotOrdered_int := G_unf c0_slices_choosePivotOrdered_int.eq_1
@[simp] def g1_slices_choosePivotOrdered_int := G_unf c1_slices_choosePivotOrdered_int.eq_1
@[simp] def g2_slices_choosePivotOrdered_int := G_unf c2_slices_choosePivotOrdered_int.eq_1
@[simp] def g3_slices_choosePivotOrdered_int := G_unf c3_slices_choosePivotOrdered_int.eq_1
@[simp] def g4_slices_choosePivotOrdered_int := G_unf c4_slices_choosePivotOrdered_int.eq_1
@[simp] def g5_slices_choosePivotOrdered_int := G_unf c5_slices_choosePivotOrdered_int.eq_1
@[simp] def g_slices_choosePivotOrdered_int := G_unf c_slices_choosePivotOrdered_int.eq_1
theorem w_slices_choosePivotOrdered_int : WC T n_slices_choosePivotOrdered_int l h q ↔ G T (fin [.t 6, .t 7] (some []) h.next q) c_slices_choosePivotOrdered_int [] (envOf l) h := WC_G T_slices_choosePivotOrdered_int
@[simp] def g0_slices_reverseRangeOrdered_int := G_unf c0_slices_reverseRangeOrdered_int.eq_1
@[simp] def g1_slices_reverseRangeOrdered_int := G_unf c1_slices_reverseRangeOrdered_int.eq_1
@[simp] def g_slices_reverseRangeOrdered_int := G_unf c_slices_reverseRangeOrdered_int.eq_1
theorem w_slices_reverseRangeOrdered_int : WC T n_slices_reverseRangeOrdered_int l h q ↔ G T (fin [] (some []) h.next q) c_slices_reverseRangeOrdered_int [] (envOf l) h := WC_G T_slices_reverseRangeOrdered_int
@[simp] def g0_slices_partialInsertionSortOrdered_int := G_unf c0_slices_partialInsertionSortOrdered_int.eq_1
@[simp] def g1_slices_partialInsertionSortOrdered_int := G_unf c1_slices_partialInsertionSortOrdered_int.eq_1
@[simp] def g2_slices_partialInsertionSortOrdered_int := G_unf c2_slices_partialInsertionSortOrdered_int.eq_1
@[simp] def g3_slices_partialInsertionSortOrdered_int := G_unf c3_slices_partialInsertionSortOrdered_int.eq_1
@[simp] def g4_slices_partialInsertionSortOrdered_int := G_unf c4_slices_partialInsertionSortOrdered_int.eq_1
@[simp] def g5_slices_partialInsertionSortOrdered_int := G_unf c5_slices_partialInsertionSortOrdered_int.eq_1
@[simp] def g6_slices_partialInsertionSortOrdered_int := G_unf c6_slices_partialInsertionSortOrdered_int.eq_1
@[simp] def g7_slices_partialInsertionSortOrdered_int := G_unf c7_slices_partialInsertionSortOrdered_int.eq_1
@[simp] def g8_slices_partialInsertionSortOrdered_int := G_unf c8_slices_partialInsertionSortOrdered_int.eq_1
@[simp] def g9_slices_partialInsertionSortOrdered_int := G_unf c9_slices_partialInsertionSortOrdered_int.eq_1
@[simp] def g10_slices_partialInsertionSortOrdered_int := G_unf c10_slices_partialInsertionSortOrdered_int.eq_1
@[simp] def g11_slices_partialInsertionSortOrdered_int := G_unf c11_slices_partialInsertionSortOrdered_int.eq_1
@[simp] def g_slices_partialInsertionSortOrdered_int := G_unf c_slices_partialInsertionSortOrdered_int.eq_1
theorem w_slices_partialInsertionSortOrdered_int : WC T n_slices_partialInsertionSortOrdered_int l h q ↔ G T (fin [.t 6] (some []) h.next q) c_slices_partialInsertionSortOrdered_int [] (envOf l) h := WC_G T_slices_partialInsertionSortOrdered_int
@[simp] def g0_cmp_Less_int := G_unf c0_cmp_Less_int.eq_1
@[simp] def g_cmp_Less_int := G_unf c_cmp_Less_int.eq_1
theorem w_cmp_Less_int : WC T n_cmp_Less_int l h q ↔ G T (fin [.t 4] (some []) h.next q) c_cmp_Less_int [] (envOf l) h := WC_G T_cmp_Less_int
@[simp] def g0_slices_partitionEqualOrdered_int := G_unf c0_slices_partitionEqualOrdered_int.eq_1
@[simp] def g1_slices_partitionEqualOrdered_int := G_unf c1_slices_partitionEqualOrdered_int.eq_1
@[simp] def g2_slices_partitionEqualOrdered_int := G_unf c2_slices_partitionEqualOrdered_int.eq_1
@[simp] def g3_slices_partitionEqualOrdered_int := G_unf c3_slices_partitionEqualOrdered_int.eq_1
@[simp] def g4_slices_partitionEqualOrdered_int := G_unf c4_slices_partitionEqualOrdered_int.eq_1
@[simp] def g5_slices_partitionEqualOrdered_int := G_unf c5_slices_partitionEqualOrdered_int.eq_1
@[simp] def g_slices_partitionEqualOrdered_int := G_unf c_slices_partitionEqualOrdered_int.eq_1
theorem w_slices_partitionEqualOrdered_int : WC T n_slices_partitionEqualOrdered_int l h q ↔ G T (fin [.t 8] (some []) h.next q) c_slices_partitionEqualOrdered_int [] (envOf l) h := WC_G T_slices_partitionEqualOrdered_int
@[simp] def g0_slices_partitionOrdered_int := G_unf c0_slices_partitionOrdered_int.eq_1
@[simp] def g1_slices_partitionOrdered_int := G_unf c1_slices_partitionOrdered_int.eq_1
@[simp] def g2_slices_partitionOrdered_int := G_unf c2_slices_partitionOrdered_int.eq_1
@[simp] def g3_slices_partitionOrdered_int := G_unf c3_slices_partitionOrdered_int.eq_1
@[simp] def g4_slices_partitionOrdered_int := G_unf c4_slices_partitionOrdered_int.eq_1
@[simp] def g5_slices_partitionOrdered_int := G_unf c5_slices_partitionOrdered_int.eq_1
@[simp] def g6_slices_partitionOrdered_int := G_unf c6_slices_partitionOrdered_int.eq_1
@[simp] def g7_slices_partitionOrdered_int := G_unf c7_slices_partitionOrdered_int.eq_1
@[simp] def g8_slices_partitionOrdered_int := G_unf c8_slices_partitionOrdered_int.eq_1
@[simp] def g9_slices_partitionOrdered_int := G_unf c9_slices_partitionOrdered_int.eq_1
@[simp] def g10_slices_partitionOrdered_int := G_unf c10_slices_partitionOrdered_int.eq_1
@[simp] def g11_slices_partitionOrdered_int := G_unf c11_slices_partitionOrdered_int.eq_1
@[simp] def g_slices_partitionOrdered_int := G_unf c_slices_partitionOrdered_int.eq_1
theorem w_slices_partitionOrdered_int : WC T n_slices_partitionOrdered_int l h q ↔ G T (fin [.t 8, .t 9] (some []) h.next q) c_slices_partitionOrdered_int [] (envOf l) h := WC_G T_slices_partitionOrdered_int
@[simp] def g0_math_bits_Len32 := G_unf c0_math_bits_Len32.eq_1
@[simp] def g1_math_bits_Len32 := G_unf c1_math_bits_Len32.eq_1
@[simp] def g2_math_bits_Len32 := G_unf c2_math_bits_Len32.eq_1
@[simp] def g_math_bits_Len32 := G_unf c_math_bits_Len32.eq_1
theorem w_math_bits_Len32 : WC T n_math_bits_Len32 l h q ↔ G T (fin [.t 2] (some []) h.next q) c_math_bits_Len32 [] (envOf l) h := WC_G T_math_bits_Len32
@[simp] def g0_math_bits_Len64 := G_unf c0_math_bits_Len64.eq_1
@[simp] def g1_math_bits_Len64 := G_unf c1_math_bits_Len64.eq_1
@[simp] def g2_math_bits_Len64 := G_unf c2_math_bits_Len64.eq_1
@[simp] def g3_math_bits_Len64 := G_unf c3_math_bits_Len64.eq_1
@[simp] def g_math_bits_Len64 := G_unf c_math_bits_Len64.eq_1
theorem w_math_bits_Len64 : WC T n_math_bits_Len64 l h q ↔ G T (fin [.t 2] (some []) h.next q) c_math_bits_Len64 [] (envOf l) h := WC_G T_math_bits_Len64
@[simp] def g_math_bits_LeadingZeros32 := G_unf c_math_bits_LeadingZeros32.eq_1
theorem w_math_bits_LeadingZeros32 : WC T n_math_bits_LeadingZeros32 l h q ↔ G T (fin [.t 2] (some []) h.next q) c_math_bits_LeadingZeros32 [] (envOf l) h := WC_G T_math_bits_LeadingZeros32
@[simp] def g0_pianolaref1_wide := G_unf c0_pianolaref1_wide.eq_1
@[simp] def g_pianolaref1_wide := G_unf c_pianolaref1_wide.eq_1
theorem w_pianolaref1_wide : WC T n_pianolaref1_wide l h q ↔ G T (fin [.t 4] (some []) h.next q) c_pianolaref1_wide [] (envOf l) h := WC_G T_pianolaref1_wide
@[simp] def g0_slices_siftDownOrdered_int := G_unf c0_slices_siftDownOrdered_int.eq_1
@[simp] def g1_slices_siftDownOrdered_int := G_unf c1_slices_siftDownOrdered_int.eq_1
@[simp] def g2_slices_siftDownOrdered_int := G_unf c2_slices_siftDownOrdered_int.eq_1
@[simp] def g3_slices_siftDownOrdered_int := G_unf c3_slices_siftDownOrdered_int.eq_1
@[simp] def g_slices_siftDownOrdered_int := G_unf c_slices_siftDownOrdered_int.eq_1
theorem w_slices_siftDownOrdered_int : WC T n_slices_siftDownOrdered_int l h q ↔ G T (fin [] (some []) h.next q) c_slices_siftDownOrdered_int [] (envOf l) h := WC_G T_slices_siftDownOrdered_int
@[simp] def g_slices_nextPowerOfTwo := G_unf c_slices_nextPowerOfTwo.eq_1
theorem w_slices_nextPowerOfTwo : WC T n_slices_nextPowerOfTwo l h q ↔ G T (fin [.t 2] (some []) h.next q) c_slices_nextPowerOfTwo [] (envOf l) h := WC_G T_slices_nextPowerOfTwo
@[simp] def g0_slices_xorshift_Next := G_unf c0_slices_xorshift_Next.eq_1
@[simp] def g1_slices_xorshift_Next := G_unf c1_slices_xorshift_Next.eq_1
@[simp] def g2_slices_xorshift_Next := G_unf c2_slices_xorshift_Next.eq_1
@[simp] def g_slices_xorshift_Next := G_unf c_slices_xorshift_Next.eq_1
theorem w_slices_xorshift_Next : WC T n_slices_xorshift_Next l h q ↔ G T (fin [.t 2] (some []) h.next q) c_slices_xorshift_Next [] (envOf l) h := WC_G T_slices_xorshift_Next
@[simp] def g0_slices_medianAdjacentOrdered_int := G_unf c0_slices_medianAdjacentOrdered_int.eq_1
@[simp] def g_slices_medianAdjacentOrdered_int := G_unf c_slices_medianAdjacentOrdered_int.eq_1
theorem w_slices_medianAdjacentOrdered_int : WC T n_slices_medianAdjacentOrdered_int l h q ↔ G T (fin [.t 6] (some []) h.next q) c_slices_medianAdjacentOrdered_int [] (envOf l) h := WC_G T_slices_medianAdjacentOrdered_int
@[simp] def g0_slices_medianOrdered_int := G_unf c0_slices_medianOrdered_int.eq_1
@[simp] def g1_slices_medianOrdered_int := G_unf c1_slices_medianOrdered_int.eq_1
@[simp] def g2_slices_medianOrdered_int := G_unf c2_slices_medianOrdered_int.eq_1
@[simp] def g_slices_medianOrdered_int := G_unf c_slices_medianOrdered_int.eq_1
theorem w_slices_medianOrdered_int : WC T n_slices_medianOrdered_int l h q ↔ G T (fin [.t 10] (some []) h.next q) c_slices_medianOrdered_int [] (envOf l) h := WC_G T_slices_medianOrdered_int
@[simp] def g_cmp_isNaN_int := G_unf c_cmp_isNaN_int.eq_1
theorem w_cmp_isNaN_int : WC T n_cmp_isNaN_int l h q ↔ G T (fin [.t 2] (some []) h.next q) c_cmp_isNaN_int [] (envOf l) h := WC_G T_cmp_isNaN_int
@[simp] def g0_slices_order2Ordered_int := G_unf c0_slices_order2Ordered_int.eq_1
@[simp] def g1_slices_order2Ordered_int := G_unf c1_slices_order2Ordered_int.eq_1
@[simp] def g_slices_order2Ordered_int := G_unf c_slices_order2Ordered_int.eq_1
theorem w_slices_order2Ordered_int : WC T n_slices_order2Ordered_int l h q ↔ G T (fin [.t 8, .t 9] (some []) h.next q) c_slices_order2Ordered_int [] (envOf l) h := WC_G T_slices_order2Ordered_int
end
theorem tab : TabOK Try.prog (compAny Try.prog) T :=
  tab_ins h_pianolalaw18_IrRows <|
  tab_ins h_pianolalaw18_IrNumbers <|
  tab_ins h_pianolalaw18_IrTells <|
  tab_ins h_pianolalaw18_IrCells <|
  tab_ins h_pianolalaw20_OptNumbers <|
  tab_ins h_pianolalaw20_OptSame <|
  tab_ins h_pianolalaw20_OptDead <|
  tab_ins h_pianolalaw20_OptFolds <|
  tab_ins h_pianolalaw20_OptLifts <|
  tab_ins h_pianolalaw18_near <|
  tab_ins h_pianolalaw18_regs <|
  tab_ins h_pianolabook_Within <|
  tab_ins h_ir_Run <|
  tab_ins h_pianolalaw18_known <|
  tab_ins h_pianolalaw18_tells <|
  tab_ins h_pianolalaw18_runs <|
  tab_ins h_ir_Reads <|
  tab_ins h_ir_Writes <|
  tab_ins h_pianolalaw20_same <|
  tab_ins h_opt_Opt <|
  tab_ins h_opt_Dead <|
  tab_ins h_opt_Fold <|
  tab_ins h_pianolalaw20_live <|
  tab_ins h_pianolalaw20_known <|
  tab_ins h_pianolalaw20_near <|
  tab_ins h_pianolabook_Same_ir_Op <|
  tab_ins h_pianolalaw18_cell <|
  tab_ins h_slices_ContainsFunc_ir_Op_ir_Op <|
  tab_ins h_ir_Run_1 <|
  tab_ins h_ir_Right <|
  tab_ins h_ir_Regs_do <|
  tab_ins h_pianolabook_Same_int <|
  tab_ins h_pianolaref18_Right <|
  tab_ins h_pianolaref18_Reads <|
  tab_ins h_pianolaref18_Writes <|
  tab_ins h_pianolaref18_Run <|
  tab_ins h_pianolabook_Same_uint32 <|
  tab_ins h_slices_Sort_int_int <|
  tab_ins h_slices_Compact_int_int <|
  tab_ins h_pianolalaw20_leaves <|
  tab_ins h_opt_right <|
  tab_ins h_slices_ContainsFunc_int_int <|
  tab_ins h_opt_Dead_1 <|
  tab_ins h_opt_sure <|
  tab_ins h_slices_Reverse_ir_Op_ir_Op <|
  tab_ins h_opt_facts_fold <|
  tab_ins h_opt_facts_done <|
  tab_ins h_pianolalaw20_cell <|
  tab_ins h_slices_IndexFunc_ir_Op_ir_Op <|
  tab_ins h_word_Mul <|
  tab_ins h_word_Div <|
  tab_ins h_ir_of <|
  tab_ins h_pianolaref18_sorted <|
  tab_ins h_pianolaref18_One <|
  tab_ins h_slices_pdqsortOrdered_int <|
  tab_ins h_math_bits_Len <|
  tab_ins h_slices_IndexFunc_int_int <|
  tab_ins h_opt_facts_knows <|
  tab_ins h_word_Sar <|
  tab_ins h_ir_one <|
  tab_ins h_word_Less <|
  tab_ins h_word_Clz <|
  tab_ins h_word_Clo <|
  tab_ins h_pianolaref1_Sar <|
  tab_ins h_pianolaref18_bit <|
  tab_ins h_pianolaref1_Less <|
  tab_ins h_pianolaref1_Mul <|
  tab_ins h_pianolaref1_Clz <|
  tab_ins h_pianolaref1_Clo <|
  tab_ins h_pianolaref1_Div <|
  tab_ins h_slices_insertionSortOrdered_int <|
  tab_ins h_slices_heapSortOrdered_int <|
  tab_ins h_slices_breakPatternsOrdered_int <|
  tab_ins h_slices_choosePivotOrdered_int <|
  tab_ins h_slices_reverseRangeOrdered_int <|
  tab_ins h_slices_partialInsertionSortOrdered_int <|
  tab_ins h_cmp_Less_int <|
  tab_ins h_slices_partitionEqualOrdered_int <|
  tab_ins h_slices_partitionOrdered_int <|
  tab_ins h_math_bits_Len32 <|
  tab_ins h_math_bits_Len64 <|
  tab_ins h_math_bits_LeadingZeros32 <|
  tab_ins h_pianolaref1_wide <|
  tab_ins h_slices_siftDownOrdered_int <|
  tab_ins h_slices_nextPowerOfTwo <|
  tab_ins h_slices_xorshift_Next <|
  tab_ins h_slices_medianAdjacentOrdered_int <|
  tab_ins h_slices_medianOrdered_int <|
  tab_ins h_cmp_isNaN_int <|
  tab_ins h_slices_order2Ordered_int <|
  tab_none
end Go.Proofs.Ytjobkhnanbkcjaa.Cd
