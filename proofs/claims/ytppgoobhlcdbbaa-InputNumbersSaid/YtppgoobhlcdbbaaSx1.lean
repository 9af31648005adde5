/- Numbers of a kind without sign, as rows of bits: what the operations do to them. -/
import Derived.Test.YtppgoobhlcdbbaaSx0
set_option linter.unusedSimpArgs false
set_option linter.unusedVariables false
namespace Go.Dx
open Go

/-- A number turned into a kind. -/
def cvt (k : IntKind) : Value → Option Value
  | .int _ n => some (.int k (k.wrap n))
  | _ => none
theorem opV_conv {e : Env} {h : Hp} {k : IntKind} {x : X} : opV e h (.conv k x) = (cvt k (x.ev e)).map fun v => (v, h) := by
  simp only [opV, cvt]
  generalize x.ev e = v
  cases v <;> rfl


def u8 (x : BitVec 8) : Value := .int .u8 (x.toNat : Int)
theorem wrap_u8 (n : Int) : IntKind.wrap .u8 n = ((BitVec.ofInt 8 n).toNat : Int) := by
  have h : (0 : Int) ≤ n % 256 := Int.emod_nonneg _ (by decide)
  simp only [IntKind.wrap, IntKind.signed, IntKind.bits, Bool.false_and, Bool.false_eq_true, if_false, BitVec.toNat_ofInt]
  norm_cast
  omega
theorem int_u8 (n : Int) : Value.int .u8 (IntKind.wrap .u8 n) = u8 (BitVec.ofInt 8 n) := by rw [wrap_u8]; rfl
theorem lit_u8 (n : Nat) (h : n < 256) : Value.int .u8 (n : Int) = u8 (BitVec.ofNat 8 n) := by
  unfold u8
  rw [BitVec.toNat_ofNat, Nat.mod_eq_of_lt h]
theorem u8_inj {x y : BitVec 8} : u8 x = u8 y ↔ x = y := by
  constructor
  · intro h
    unfold u8 at h
    simp only [Value.int.injEq, true_and] at h
    exact BitVec.eq_of_toNat_eq (by omega)
  · rintro rfl; rfl
theorem add_u8 (x y : BitVec 8) : binV .add (u8 x) (u8 y) = some (u8 (x + y)) := by
  have h : BitVec.ofInt 8 ((x.toNat : Int) + y.toNat) = x + y := by
    apply BitVec.eq_of_toNat_eq
    have h1 := x.isLt
    have h2 := y.isLt
    simp only [BitVec.toNat_ofInt, BitVec.toNat_add]
    omega
  simp only [binV, u8, binI, wrap_u8, h, if_true]
theorem sub_u8 (x y : BitVec 8) : binV .sub (u8 x) (u8 y) = some (u8 (x - y)) := by
  have h : BitVec.ofInt 8 ((x.toNat : Int) - y.toNat) = x - y := by
    apply BitVec.eq_of_toNat_eq
    have h1 := x.isLt
    have h2 := y.isLt
    simp only [BitVec.toNat_ofInt, BitVec.toNat_sub]
    omega
  simp only [binV, u8, binI, wrap_u8, h, if_true]
theorem mul_u8 (x y : BitVec 8) : binV .mul (u8 x) (u8 y) = some (u8 (x * y)) := by
  have h : BitVec.ofInt 8 ((x.toNat : Int) * y.toNat) = x * y := by
    rw [← Int.natCast_mul, BitVec.ofInt_natCast]
    apply BitVec.eq_of_toNat_eq
    simp [BitVec.toNat_mul]
  simp only [binV, u8, binI, wrap_u8, h, if_true]
theorem and_u8 (x y : BitVec 8) : binV .and (u8 x) (u8 y) = some (u8 (x &&& y)) := by
  simp only [binV, u8, binI, wrap_u8, IntKind.bits, BitVec.ofInt_natCast, BitVec.ofNat_toNat, BitVec.setWidth_eq, if_true]
  rfl
theorem or_u8 (x y : BitVec 8) : binV .or (u8 x) (u8 y) = some (u8 (x ||| y)) := by
  simp only [binV, u8, binI, wrap_u8, IntKind.bits, BitVec.ofInt_natCast, BitVec.ofNat_toNat, BitVec.setWidth_eq, if_true]
  rfl
theorem xor_u8 (x y : BitVec 8) : binV .xor (u8 x) (u8 y) = some (u8 (x ^^^ y)) := by
  simp only [binV, u8, binI, wrap_u8, IntKind.bits, BitVec.ofInt_natCast, BitVec.ofNat_toNat, BitVec.setWidth_eq, if_true]
  rfl
theorem andNot_u8 (x y : BitVec 8) : binV .andNot (u8 x) (u8 y) = some (u8 (x &&& ~~~ y)) := by
  simp only [binV, u8, binI, wrap_u8, IntKind.bits, BitVec.ofInt_natCast, BitVec.ofNat_toNat, BitVec.setWidth_eq, if_true]
  rfl
theorem quo_u8 (x y : BitVec 8) (h : y ≠ 0) : binV .quo (u8 x) (u8 y) = some (u8 (x / y)) := by
  have hy : ¬ ((y.toNat : Int) = 0) := fun hh => h (BitVec.eq_of_toNat_eq (by simpa using hh))
  have : BitVec.ofInt 8 ((x.toNat : Int).tdiv y.toNat) = x / y := by
    apply BitVec.eq_of_toNat_eq
    have h1 : x.toNat / y.toNat < 256 := Nat.lt_of_le_of_lt (Nat.div_le_self _ _) x.isLt
    rw [← Int.ofNat_tdiv, BitVec.ofInt_natCast, BitVec.toNat_ofNat, BitVec.toNat_udiv, Nat.mod_eq_of_lt h1]
  simp only [binV, u8, binI, wrap_u8, this, if_true, hy, if_false]
theorem rem_u8 (x y : BitVec 8) (h : y ≠ 0) : binV .rem (u8 x) (u8 y) = some (u8 (x % y)) := by
  have hy : ¬ ((y.toNat : Int) = 0) := fun hh => h (BitVec.eq_of_toNat_eq (by simpa using hh))
  have : (x.toNat : Int).tmod y.toNat = ((x % y).toNat : Int) := by
    rw [← Int.ofNat_tmod, BitVec.toNat_umod]
  simp only [binV, u8, binI, this, if_true, hy, if_false]
theorem eql_u8 (x y : BitVec 8) : binV .eql (u8 x) (u8 y) = some (.bool (x == y)) := by
  have : ((x.toNat : Int) == (y.toNat : Int)) = (x == y) := by
    rw [Bool.eq_iff_iff]
    simp only [beq_iff_eq]
    exact ⟨fun h => BitVec.eq_of_toNat_eq (by omega), fun h => by rw [h]⟩
  simp only [binV, u8, binI, this, if_true]
theorem neq_u8 (x y : BitVec 8) : binV .neq (u8 x) (u8 y) = some (.bool (x != y)) := by
  have : ((x.toNat : Int) == (y.toNat : Int)) = (x == y) := by
    rw [Bool.eq_iff_iff]
    simp only [beq_iff_eq]
    exact ⟨fun h => BitVec.eq_of_toNat_eq (by omega), fun h => by rw [h]⟩
  simp only [binV, u8, binI, bne, this, if_true]
theorem lss_u8 (x y : BitVec 8) : binV .lss (u8 x) (u8 y) = some (.bool (decide (x < y))) := by
  simp only [binV, u8, binI, if_true, BitVec.lt_def, Int.ofNat_lt]
theorem leq_u8 (x y : BitVec 8) : binV .leq (u8 x) (u8 y) = some (.bool (decide (x ≤ y))) := by
  simp only [binV, u8, binI, if_true, BitVec.le_def, Int.ofNat_le]
theorem gtr_u8 (x y : BitVec 8) : binV .gtr (u8 x) (u8 y) = some (.bool (decide (y < x))) := by
  simp only [binV, u8, binI, if_true, BitVec.lt_def, gt_iff_lt, Int.ofNat_lt]
theorem geq_u8 (x y : BitVec 8) : binV .geq (u8 x) (u8 y) = some (.bool (decide (y ≤ x))) := by
  simp only [binV, u8, binI, if_true, BitVec.le_def, ge_iff_le, Int.ofNat_le]
theorem shl_u8_n (x : BitVec 8) (k : IntKind) (n : Nat) : binV .shl (u8 x) (.int k (n : Int)) = some (u8 (x <<< n)) := by
  have hn : ¬ ((n : Int) < 0) := by omega
  have : BitVec.ofInt 8 ((x.toNat : Int) * 2 ^ (min n 8)) = x <<< n := by
    apply BitVec.eq_of_toNat_eq
    have e : ((x.toNat : Int) * 2 ^ (min n 8)) = ((x.toNat * 2 ^ (min n 8) : Nat) : Int) := by simp
    rw [e, BitVec.ofInt_natCast, BitVec.toNat_ofNat, BitVec.toNat_shiftLeft, Nat.shiftLeft_eq]
    rcases Nat.le_total n 8 with hh | hh
    · rw [Nat.min_eq_left hh]
    · rw [Nat.min_eq_right hh, show n = 8 + (n - 8) by omega, Nat.pow_add]
      rw [Nat.mul_mod_left, ← Nat.mul_assoc, Nat.mul_right_comm, Nat.mul_mod_left]
  simp only [binV, u8, shiftI, hn, if_false, wrap_u8, IntKind.bits, Int.toNat_natCast, this]
theorem shr_u8_n (x : BitVec 8) (k : IntKind) (n : Nat) : binV .shr (u8 x) (.int k (n : Int)) = some (u8 (x >>> n)) := by
  have hn : ¬ ((n : Int) < 0) := by omega
  have : (x.toNat : Int).fdiv (2 ^ (min n 8)) = ((x >>> n).toNat : Int) := by
    have e : (x.toNat : Int).fdiv (2 ^ (min n 8)) = ((x.toNat / 2 ^ (min n 8) : Nat) : Int) := by
      rw [Int.fdiv_eq_ediv_of_nonneg _ (by exact_mod_cast Nat.zero_le _)]
      norm_cast
    rw [e, BitVec.toNat_ushiftRight, Nat.shiftRight_eq_div_pow]
    rcases Nat.le_total n 8 with hh | hh
    · rw [Nat.min_eq_left hh]
    · rw [Nat.min_eq_right hh, Nat.div_eq_of_lt x.isLt, Nat.div_eq_of_lt (Nat.lt_of_lt_of_le x.isLt (Nat.pow_le_pow_right (by decide) hh))]
  simp only [binV, u8, shiftI, hn, if_false, IntKind.bits, Int.toNat_natCast, this]
theorem not_u8 (x : BitVec 8) : unV .xor (u8 x) = some (u8 (~~~ x)) := by
  simp only [unV, u8, IntKind.signed, Bool.false_eq_true, if_false, IntKind.max, IntKind.bits, BitVec.ofInt_natCast, BitVec.ofNat_toNat, BitVec.setWidth_eq, wrap_u8]
  have h : BitVec.ofInt 8 (2 ^ 8 - 1) = BitVec.allOnes 8 := by decide
  rw [h]
  have g : (BitVec.allOnes 8 ^^^ x) = ~~~ x := by rw [BitVec.xor_comm, BitVec.xor_allOnes]
  exact congrArg (fun y : BitVec 8 => some (Value.int .u8 (y.toNat : Int))) g

def u16 (x : BitVec 16) : Value := .int .u16 (x.toNat : Int)
theorem wrap_u16 (n : Int) : IntKind.wrap .u16 n = ((BitVec.ofInt 16 n).toNat : Int) := by
  have h : (0 : Int) ≤ n % 65536 := Int.emod_nonneg _ (by decide)
  simp only [IntKind.wrap, IntKind.signed, IntKind.bits, Bool.false_and, Bool.false_eq_true, if_false, BitVec.toNat_ofInt]
  norm_cast
  omega
theorem int_u16 (n : Int) : Value.int .u16 (IntKind.wrap .u16 n) = u16 (BitVec.ofInt 16 n) := by rw [wrap_u16]; rfl
theorem lit_u16 (n : Nat) (h : n < 65536) : Value.int .u16 (n : Int) = u16 (BitVec.ofNat 16 n) := by
  unfold u16
  rw [BitVec.toNat_ofNat, Nat.mod_eq_of_lt h]
theorem u16_inj {x y : BitVec 16} : u16 x = u16 y ↔ x = y := by
  constructor
  · intro h
    unfold u16 at h
    simp only [Value.int.injEq, true_and] at h
    exact BitVec.eq_of_toNat_eq (by omega)
  · rintro rfl; rfl
theorem add_u16 (x y : BitVec 16) : binV .add (u16 x) (u16 y) = some (u16 (x + y)) := by
  have h : BitVec.ofInt 16 ((x.toNat : Int) + y.toNat) = x + y := by
    apply BitVec.eq_of_toNat_eq
    have h1 := x.isLt
    have h2 := y.isLt
    simp only [BitVec.toNat_ofInt, BitVec.toNat_add]
    omega
  simp only [binV, u16, binI, wrap_u16, h, if_true]
theorem sub_u16 (x y : BitVec 16) : binV .sub (u16 x) (u16 y) = some (u16 (x - y)) := by
  have h : BitVec.ofInt 16 ((x.toNat : Int) - y.toNat) = x - y := by
    apply BitVec.eq_of_toNat_eq
    have h1 := x.isLt
    have h2 := y.isLt
    simp only [BitVec.toNat_ofInt, BitVec.toNat_sub]
    omega
  simp only [binV, u16, binI, wrap_u16, h, if_true]
theorem mul_u16 (x y : BitVec 16) : binV .mul (u16 x) (u16 y) = some (u16 (x * y)) := by
  have h : BitVec.ofInt 16 ((x.toNat : Int) * y.toNat) = x * y := by
    rw [← Int.natCast_mul, BitVec.ofInt_natCast]
    apply BitVec.eq_of_toNat_eq
    simp [BitVec.toNat_mul]
  simp only [binV, u16, binI, wrap_u16, h, if_true]
theorem and_u16 (x y : BitVec 16) : binV .and (u16 x) (u16 y) = some (u16 (x &&& y)) := by
  simp only [binV, u16, binI, wrap_u16, IntKind.bits, BitVec.ofInt_natCast, BitVec.ofNat_toNat, BitVec.setWidth_eq, if_true]
  rfl
theorem or_u16 (x y : BitVec 16) : binV .or (u16 x) (u16 y) = some (u16 (x ||| y)) := by
  simp only [binV, u16, binI, wrap_u16, IntKind.bits, BitVec.ofInt_natCast, BitVec.ofNat_toNat, BitVec.setWidth_eq, if_true]
  rfl
theorem xor_u16 (x y : BitVec 16) : binV .xor (u16 x) (u16 y) = some (u16 (x ^^^ y)) := by
  simp only [binV, u16, binI, wrap_u16, IntKind.bits, BitVec.ofInt_natCast, BitVec.ofNat_toNat, BitVec.setWidth_eq, if_true]
  rfl
theorem andNot_u16 (x y : BitVec 16) : binV .andNot (u16 x) (u16 y) = some (u16 (x &&& ~~~ y)) := by
  simp only [binV, u16, binI, wrap_u16, IntKind.bits, BitVec.ofInt_natCast, BitVec.ofNat_toNat, BitVec.setWidth_eq, if_true]
  rfl
theorem quo_u16 (x y : BitVec 16) (h : y ≠ 0) : binV .quo (u16 x) (u16 y) = some (u16 (x / y)) := by
  have hy : ¬ ((y.toNat : Int) = 0) := fun hh => h (BitVec.eq_of_toNat_eq (by simpa using hh))
  have : BitVec.ofInt 16 ((x.toNat : Int).tdiv y.toNat) = x / y := by
    apply BitVec.eq_of_toNat_eq
    have h1 : x.toNat / y.toNat < 65536 := Nat.lt_of_le_of_lt (Nat.div_le_self _ _) x.isLt
    rw [← Int.ofNat_tdiv, BitVec.ofInt_natCast, BitVec.toNat_ofNat, BitVec.toNat_udiv, Nat.mod_eq_of_lt h1]
  simp only [binV, u16, binI, wrap_u16, this, if_true, hy, if_false]
theorem rem_u16 (x y : BitVec 16) (h : y ≠ 0) : binV .rem (u16 x) (u16 y) = some (u16 (x % y)) := by
  have hy : ¬ ((y.toNat : Int) = 0) := fun hh => h (BitVec.eq_of_toNat_eq (by simpa using hh))
  have : (x.toNat : Int).tmod y.toNat = ((x % y).toNat : Int) := by
    rw [← Int.ofNat_tmod, BitVec.toNat_umod]
  simp only [binV, u16, binI, this, if_true, hy, if_false]
theorem eql_u16 (x y : BitVec 16) : binV .eql (u16 x) (u16 y) = some (.bool (x == y)) := by
  have : ((x.toNat : Int) == (y.toNat : Int)) = (x == y) := by
    rw [Bool.eq_iff_iff]
    simp only [beq_iff_eq]
    exact ⟨fun h => BitVec.eq_of_toNat_eq (by omega), fun h => by rw [h]⟩
  simp only [binV, u16, binI, this, if_true]
theorem neq_u16 (x y : BitVec 16) : binV .neq (u16 x) (u16 y) = some (.bool (x != y)) := by
  have : ((x.toNat : Int) == (y.toNat : Int)) = (x == y) := by
    rw [Bool.eq_iff_iff]
    simp only [beq_iff_eq]
    exact ⟨fun h => BitVec.eq_of_toNat_eq (by omega), fun h => by rw [h]⟩
  simp only [binV, u16, binI, bne, this, if_true]
theorem lss_u16 (x y : BitVec 16) : binV .lss (u16 x) (u16 y) = some (.bool (decide (x < y))) := by
  simp only [binV, u16, binI, if_true, BitVec.lt_def, Int.ofNat_lt]
theorem leq_u16 (x y : BitVec 16) : binV .leq (u16 x) (u16 y) = some (.bool (decide (x ≤ y))) := by
  simp only [binV, u16, binI, if_true, BitVec.le_def, Int.ofNat_le]
theorem gtr_u16 (x y : BitVec 16) : binV .gtr (u16 x) (u16 y) = some (.bool (decide (y < x))) := by
  simp only [binV, u16, binI, if_true, BitVec.lt_def, gt_iff_lt, Int.ofNat_lt]
theorem geq_u16 (x y : BitVec 16) : binV .geq (u16 x) (u16 y) = some (.bool (decide (y ≤ x))) := by
  simp only [binV, u16, binI, if_true, BitVec.le_def, ge_iff_le, Int.ofNat_le]
theorem shl_u16_n (x : BitVec 16) (k : IntKind) (n : Nat) : binV .shl (u16 x) (.int k (n : Int)) = some (u16 (x <<< n)) := by
  have hn : ¬ ((n : Int) < 0) := by omega
  have : BitVec.ofInt 16 ((x.toNat : Int) * 2 ^ (min n 16)) = x <<< n := by
    apply BitVec.eq_of_toNat_eq
    have e : ((x.toNat : Int) * 2 ^ (min n 16)) = ((x.toNat * 2 ^ (min n 16) : Nat) : Int) := by simp
    rw [e, BitVec.ofInt_natCast, BitVec.toNat_ofNat, BitVec.toNat_shiftLeft, Nat.shiftLeft_eq]
    rcases Nat.le_total n 16 with hh | hh
    · rw [Nat.min_eq_left hh]
    · rw [Nat.min_eq_right hh, show n = 16 + (n - 16) by omega, Nat.pow_add]
      rw [Nat.mul_mod_left, ← Nat.mul_assoc, Nat.mul_right_comm, Nat.mul_mod_left]
  simp only [binV, u16, shiftI, hn, if_false, wrap_u16, IntKind.bits, Int.toNat_natCast, this]
theorem shr_u16_n (x : BitVec 16) (k : IntKind) (n : Nat) : binV .shr (u16 x) (.int k (n : Int)) = some (u16 (x >>> n)) := by
  have hn : ¬ ((n : Int) < 0) := by omega
  have : (x.toNat : Int).fdiv (2 ^ (min n 16)) = ((x >>> n).toNat : Int) := by
    have e : (x.toNat : Int).fdiv (2 ^ (min n 16)) = ((x.toNat / 2 ^ (min n 16) : Nat) : Int) := by
      rw [Int.fdiv_eq_ediv_of_nonneg _ (by exact_mod_cast Nat.zero_le _)]
      norm_cast
    rw [e, BitVec.toNat_ushiftRight, Nat.shiftRight_eq_div_pow]
    rcases Nat.le_total n 16 with hh | hh
    · rw [Nat.min_eq_left hh]
    · rw [Nat.min_eq_right hh, Nat.div_eq_of_lt x.isLt, Nat.div_eq_of_lt (Nat.lt_of_lt_of_le x.isLt (Nat.pow_le_pow_right (by decide) hh))]
  simp only [binV, u16, shiftI, hn, if_false, IntKind.bits, Int.toNat_natCast, this]
theorem not_u16 (x : BitVec 16) : unV .xor (u16 x) = some (u16 (~~~ x)) := by
  simp only [unV, u16, IntKind.signed, Bool.false_eq_true, if_false, IntKind.max, IntKind.bits, BitVec.ofInt_natCast, BitVec.ofNat_toNat, BitVec.setWidth_eq, wrap_u16]
  have h : BitVec.ofInt 16 (2 ^ 16 - 1) = BitVec.allOnes 16 := by decide
  rw [h]
  have g : (BitVec.allOnes 16 ^^^ x) = ~~~ x := by rw [BitVec.xor_comm, BitVec.xor_allOnes]
  exact congrArg (fun y : BitVec 16 => some (Value.int .u16 (y.toNat : Int))) g

def u32 (x : BitVec 32) : Value := .int .u32 (x.toNat : Int)
theorem wrap_u32 (n : Int) : IntKind.wrap .u32 n = ((BitVec.ofInt 32 n).toNat : Int) := by
  have h : (0 : Int) ≤ n % 4294967296 := Int.emod_nonneg _ (by decide)
  simp only [IntKind.wrap, IntKind.signed, IntKind.bits, Bool.false_and, Bool.false_eq_true, if_false, BitVec.toNat_ofInt]
  norm_cast
  omega
theorem int_u32 (n : Int) : Value.int .u32 (IntKind.wrap .u32 n) = u32 (BitVec.ofInt 32 n) := by rw [wrap_u32]; rfl
theorem lit_u32 (n : Nat) (h : n < 4294967296) : Value.int .u32 (n : Int) = u32 (BitVec.ofNat 32 n) := by
  unfold u32
  rw [BitVec.toNat_ofNat, Nat.mod_eq_of_lt h]
theorem u32_inj {x y : BitVec 32} : u32 x = u32 y ↔ x = y := by
  constructor
  · intro h
    unfold u32 at h
    simp only [Value.int.injEq, true_and] at h
    exact BitVec.eq_of_toNat_eq (by omega)
  · rintro rfl; rfl
theorem add_u32 (x y : BitVec 32) : binV .add (u32 x) (u32 y) = some (u32 (x + y)) := by
  have h : BitVec.ofInt 32 ((x.toNat : Int) + y.toNat) = x + y := by
    apply BitVec.eq_of_toNat_eq
    have h1 := x.isLt
    have h2 := y.isLt
    simp only [BitVec.toNat_ofInt, BitVec.toNat_add]
    omega
  simp only [binV, u32, binI, wrap_u32, h, if_true]
theorem sub_u32 (x y : BitVec 32) : binV .sub (u32 x) (u32 y) = some (u32 (x - y)) := by
  have h : BitVec.ofInt 32 ((x.toNat : Int) - y.toNat) = x - y := by
    apply BitVec.eq_of_toNat_eq
    have h1 := x.isLt
    have h2 := y.isLt
    simp only [BitVec.toNat_ofInt, BitVec.toNat_sub]
    omega
  simp only [binV, u32, binI, wrap_u32, h, if_true]
theorem mul_u32 (x y : BitVec 32) : binV .mul (u32 x) (u32 y) = some (u32 (x * y)) := by
  have h : BitVec.ofInt 32 ((x.toNat : Int) * y.toNat) = x * y := by
    rw [← Int.natCast_mul, BitVec.ofInt_natCast]
    apply BitVec.eq_of_toNat_eq
    simp [BitVec.toNat_mul]
  simp only [binV, u32, binI, wrap_u32, h, if_true]
theorem and_u32 (x y : BitVec 32) : binV .and (u32 x) (u32 y) = some (u32 (x &&& y)) := by
  simp only [binV, u32, binI, wrap_u32, IntKind.bits, BitVec.ofInt_natCast, BitVec.ofNat_toNat, BitVec.setWidth_eq, if_true]
  rfl
theorem or_u32 (x y : BitVec 32) : binV .or (u32 x) (u32 y) = some (u32 (x ||| y)) := by
  simp only [binV, u32, binI, wrap_u32, IntKind.bits, BitVec.ofInt_natCast, BitVec.ofNat_toNat, BitVec.setWidth_eq, if_true]
  rfl
theorem xor_u32 (x y : BitVec 32) : binV .xor (u32 x) (u32 y) = some (u32 (x ^^^ y)) := by
  simp only [binV, u32, binI, wrap_u32, IntKind.bits, BitVec.ofInt_natCast, BitVec.ofNat_toNat, BitVec.setWidth_eq, if_true]
  rfl
theorem andNot_u32 (x y : BitVec 32) : binV .andNot (u32 x) (u32 y) = some (u32 (x &&& ~~~ y)) := by
  simp only [binV, u32, binI, wrap_u32, IntKind.bits, BitVec.ofInt_natCast, BitVec.ofNat_toNat, BitVec.setWidth_eq, if_true]
  rfl
theorem quo_u32 (x y : BitVec 32) (h : y ≠ 0) : binV .quo (u32 x) (u32 y) = some (u32 (x / y)) := by
  have hy : ¬ ((y.toNat : Int) = 0) := fun hh => h (BitVec.eq_of_toNat_eq (by simpa using hh))
  have : BitVec.ofInt 32 ((x.toNat : Int).tdiv y.toNat) = x / y := by
    apply BitVec.eq_of_toNat_eq
    have h1 : x.toNat / y.toNat < 4294967296 := Nat.lt_of_le_of_lt (Nat.div_le_self _ _) x.isLt
    rw [← Int.ofNat_tdiv, BitVec.ofInt_natCast, BitVec.toNat_ofNat, BitVec.toNat_udiv, Nat.mod_eq_of_lt h1]
  simp only [binV, u32, binI, wrap_u32, this, if_true, hy, if_false]
theorem rem_u32 (x y : BitVec 32) (h : y ≠ 0) : binV .rem (u32 x) (u32 y) = some (u32 (x % y)) := by
  have hy : ¬ ((y.toNat : Int) = 0) := fun hh => h (BitVec.eq_of_toNat_eq (by simpa using hh))
  have : (x.toNat : Int).tmod y.toNat = ((x % y).toNat : Int) := by
    rw [← Int.ofNat_tmod, BitVec.toNat_umod]
  simp only [binV, u32, binI, this, if_true, hy, if_false]
theorem eql_u32 (x y : BitVec 32) : binV .eql (u32 x) (u32 y) = some (.bool (x == y)) := by
  have : ((x.toNat : Int) == (y.toNat : Int)) = (x == y) := by
    rw [Bool.eq_iff_iff]
    simp only [beq_iff_eq]
    exact ⟨fun h => BitVec.eq_of_toNat_eq (by omega), fun h => by rw [h]⟩
  simp only [binV, u32, binI, this, if_true]
theorem neq_u32 (x y : BitVec 32) : binV .neq (u32 x) (u32 y) = some (.bool (x != y)) := by
  have : ((x.toNat : Int) == (y.toNat : Int)) = (x == y) := by
    rw [Bool.eq_iff_iff]
    simp only [beq_iff_eq]
    exact ⟨fun h => BitVec.eq_of_toNat_eq (by omega), fun h => by rw [h]⟩
  simp only [binV, u32, binI, bne, this, if_true]
theorem lss_u32 (x y : BitVec 32) : binV .lss (u32 x) (u32 y) = some (.bool (decide (x < y))) := by
  simp only [binV, u32, binI, if_true, BitVec.lt_def, Int.ofNat_lt]
theorem leq_u32 (x y : BitVec 32) : binV .leq (u32 x) (u32 y) = some (.bool (decide (x ≤ y))) := by
  simp only [binV, u32, binI, if_true, BitVec.le_def, Int.ofNat_le]
theorem gtr_u32 (x y : BitVec 32) : binV .gtr (u32 x) (u32 y) = some (.bool (decide (y < x))) := by
  simp only [binV, u32, binI, if_true, BitVec.lt_def, gt_iff_lt, Int.ofNat_lt]
theorem geq_u32 (x y : BitVec 32) : binV .geq (u32 x) (u32 y) = some (.bool (decide (y ≤ x))) := by
  simp only [binV, u32, binI, if_true, BitVec.le_def, ge_iff_le, Int.ofNat_le]
theorem shl_u32_n (x : BitVec 32) (k : IntKind) (n : Nat) : binV .shl (u32 x) (.int k (n : Int)) = some (u32 (x <<< n)) := by
  have hn : ¬ ((n : Int) < 0) := by omega
  have : BitVec.ofInt 32 ((x.toNat : Int) * 2 ^ (min n 32)) = x <<< n := by
    apply BitVec.eq_of_toNat_eq
    have e : ((x.toNat : Int) * 2 ^ (min n 32)) = ((x.toNat * 2 ^ (min n 32) : Nat) : Int) := by simp
    rw [e, BitVec.ofInt_natCast, BitVec.toNat_ofNat, BitVec.toNat_shiftLeft, Nat.shiftLeft_eq]
    rcases Nat.le_total n 32 with hh | hh
    · rw [Nat.min_eq_left hh]
    · rw [Nat.min_eq_right hh, show n = 32 + (n - 32) by omega, Nat.pow_add]
      rw [Nat.mul_mod_left, ← Nat.mul_assoc, Nat.mul_right_comm, Nat.mul_mod_left]
  simp only [binV, u32, shiftI, hn, if_false, wrap_u32, IntKind.bits, Int.toNat_natCast, this]
theorem shr_u32_n (x : BitVec 32) (k : IntKind) (n : Nat) : binV .shr (u32 x) (.int k (n : Int)) = some (u32 (x >>> n)) := by
  have hn : ¬ ((n : Int) < 0) := by omega
  have : (x.toNat : Int).fdiv (2 ^ (min n 32)) = ((x >>> n).toNat : Int) := by
    have e : (x.toNat : Int).fdiv (2 ^ (min n 32)) = ((x.toNat / 2 ^ (min n 32) : Nat) : Int) := by
      rw [Int.fdiv_eq_ediv_of_nonneg _ (by exact_mod_cast Nat.zero_le _)]
      norm_cast
    rw [e, BitVec.toNat_ushiftRight, Nat.shiftRight_eq_div_pow]
    rcases Nat.le_total n 32 with hh | hh
    · rw [Nat.min_eq_left hh]
    · rw [Nat.min_eq_right hh, Nat.div_eq_of_lt x.isLt, Nat.div_eq_of_lt (Nat.lt_of_lt_of_le x.isLt (Nat.pow_le_pow_right (by decide) hh))]
  simp only [binV, u32, shiftI, hn, if_false, IntKind.bits, Int.toNat_natCast, this]
theorem not_u32 (x : BitVec 32) : unV .xor (u32 x) = some (u32 (~~~ x)) := by
  simp only [unV, u32, IntKind.signed, Bool.false_eq_true, if_false, IntKind.max, IntKind.bits, BitVec.ofInt_natCast, BitVec.ofNat_toNat, BitVec.setWidth_eq, wrap_u32]
  have h : BitVec.ofInt 32 (2 ^ 32 - 1) = BitVec.allOnes 32 := by decide
  rw [h]
  have g : (BitVec.allOnes 32 ^^^ x) = ~~~ x := by rw [BitVec.xor_comm, BitVec.xor_allOnes]
  exact congrArg (fun y : BitVec 32 => some (Value.int .u32 (y.toNat : Int))) g

def u64 (x : BitVec 64) : Value := .int .u64 (x.toNat : Int)
theorem wrap_u64 (n : Int) : IntKind.wrap .u64 n = ((BitVec.ofInt 64 n).toNat : Int) := by
  have h : (0 : Int) ≤ n % 18446744073709551616 := Int.emod_nonneg _ (by decide)
  simp only [IntKind.wrap, IntKind.signed, IntKind.bits, Bool.false_and, Bool.false_eq_true, if_false, BitVec.toNat_ofInt]
  norm_cast
  omega
theorem int_u64 (n : Int) : Value.int .u64 (IntKind.wrap .u64 n) = u64 (BitVec.ofInt 64 n) := by rw [wrap_u64]; rfl
theorem lit_u64 (n : Nat) (h : n < 18446744073709551616) : Value.int .u64 (n : Int) = u64 (BitVec.ofNat 64 n) := by
  unfold u64
  rw [BitVec.toNat_ofNat, Nat.mod_eq_of_lt h]
theorem u64_inj {x y : BitVec 64} : u64 x = u64 y ↔ x = y := by
  constructor
  · intro h
    unfold u64 at h
    simp only [Value.int.injEq, true_and] at h
    exact BitVec.eq_of_toNat_eq (by omega)
  · rintro rfl; rfl
theorem add_u64 (x y : BitVec 64) : binV .add (u64 x) (u64 y) = some (u64 (x + y)) := by
  have h : BitVec.ofInt 64 ((x.toNat : Int) + y.toNat) = x + y := by
    apply BitVec.eq_of_toNat_eq
    have h1 := x.isLt
    have h2 := y.isLt
    simp only [BitVec.toNat_ofInt, BitVec.toNat_add]
    omega
  simp only [binV, u64, binI, wrap_u64, h, if_true]
theorem sub_u64 (x y : BitVec 64) : binV .sub (u64 x) (u64 y) = some (u64 (x - y)) := by
  have h : BitVec.ofInt 64 ((x.toNat : Int) - y.toNat) = x - y := by
    apply BitVec.eq_of_toNat_eq
    have h1 := x.isLt
    have h2 := y.isLt
    simp only [BitVec.toNat_ofInt, BitVec.toNat_sub]
    omega
  simp only [binV, u64, binI, wrap_u64, h, if_true]
theorem mul_u64 (x y : BitVec 64) : binV .mul (u64 x) (u64 y) = some (u64 (x * y)) := by
  have h : BitVec.ofInt 64 ((x.toNat : Int) * y.toNat) = x * y := by
    rw [← Int.natCast_mul, BitVec.ofInt_natCast]
    apply BitVec.eq_of_toNat_eq
    simp [BitVec.toNat_mul]
  simp only [binV, u64, binI, wrap_u64, h, if_true]
theorem and_u64 (x y : BitVec 64) : binV .and (u64 x) (u64 y) = some (u64 (x &&& y)) := by
  simp only [binV, u64, binI, wrap_u64, IntKind.bits, BitVec.ofInt_natCast, BitVec.ofNat_toNat, BitVec.setWidth_eq, if_true]
  rfl
theorem or_u64 (x y : BitVec 64) : binV .or (u64 x) (u64 y) = some (u64 (x ||| y)) := by
  simp only [binV, u64, binI, wrap_u64, IntKind.bits, BitVec.ofInt_natCast, BitVec.ofNat_toNat, BitVec.setWidth_eq, if_true]
  rfl
theorem xor_u64 (x y : BitVec 64) : binV .xor (u64 x) (u64 y) = some (u64 (x ^^^ y)) := by
  simp only [binV, u64, binI, wrap_u64, IntKind.bits, BitVec.ofInt_natCast, BitVec.ofNat_toNat, BitVec.setWidth_eq, if_true]
  rfl
theorem andNot_u64 (x y : BitVec 64) : binV .andNot (u64 x) (u64 y) = some (u64 (x &&& ~~~ y)) := by
  simp only [binV, u64, binI, wrap_u64, IntKind.bits, BitVec.ofInt_natCast, BitVec.ofNat_toNat, BitVec.setWidth_eq, if_true]
  rfl
theorem quo_u64 (x y : BitVec 64) (h : y ≠ 0) : binV .quo (u64 x) (u64 y) = some (u64 (x / y)) := by
  have hy : ¬ ((y.toNat : Int) = 0) := fun hh => h (BitVec.eq_of_toNat_eq (by simpa using hh))
  have : BitVec.ofInt 64 ((x.toNat : Int).tdiv y.toNat) = x / y := by
    apply BitVec.eq_of_toNat_eq
    have h1 : x.toNat / y.toNat < 18446744073709551616 := Nat.lt_of_le_of_lt (Nat.div_le_self _ _) x.isLt
    rw [← Int.ofNat_tdiv, BitVec.ofInt_natCast, BitVec.toNat_ofNat, BitVec.toNat_udiv, Nat.mod_eq_of_lt h1]
  simp only [binV, u64, binI, wrap_u64, this, if_true, hy, if_false]
theorem rem_u64 (x y : BitVec 64) (h : y ≠ 0) : binV .rem (u64 x) (u64 y) = some (u64 (x % y)) := by
  have hy : ¬ ((y.toNat : Int) = 0) := fun hh => h (BitVec.eq_of_toNat_eq (by simpa using hh))
  have : (x.toNat : Int).tmod y.toNat = ((x % y).toNat : Int) := by
    rw [← Int.ofNat_tmod, BitVec.toNat_umod]
  simp only [binV, u64, binI, this, if_true, hy, if_false]
theorem eql_u64 (x y : BitVec 64) : binV .eql (u64 x) (u64 y) = some (.bool (x == y)) := by
  have : ((x.toNat : Int) == (y.toNat : Int)) = (x == y) := by
    rw [Bool.eq_iff_iff]
    simp only [beq_iff_eq]
    exact ⟨fun h => BitVec.eq_of_toNat_eq (by omega), fun h => by rw [h]⟩
  simp only [binV, u64, binI, this, if_true]
theorem neq_u64 (x y : BitVec 64) : binV .neq (u64 x) (u64 y) = some (.bool (x != y)) := by
  have : ((x.toNat : Int) == (y.toNat : Int)) = (x == y) := by
    rw [Bool.eq_iff_iff]
    simp only [beq_iff_eq]
    exact ⟨fun h => BitVec.eq_of_toNat_eq (by omega), fun h => by rw [h]⟩
  simp only [binV, u64, binI, bne, this, if_true]
theorem lss_u64 (x y : BitVec 64) : binV .lss (u64 x) (u64 y) = some (.bool (decide (x < y))) := by
  simp only [binV, u64, binI, if_true, BitVec.lt_def, Int.ofNat_lt]
theorem leq_u64 (x y : BitVec 64) : binV .leq (u64 x) (u64 y) = some (.bool (decide (x ≤ y))) := by
  simp only [binV, u64, binI, if_true, BitVec.le_def, Int.ofNat_le]
theorem gtr_u64 (x y : BitVec 64) : binV .gtr (u64 x) (u64 y) = some (.bool (decide (y < x))) := by
  simp only [binV, u64, binI, if_true, BitVec.lt_def, gt_iff_lt, Int.ofNat_lt]
theorem geq_u64 (x y : BitVec 64) : binV .geq (u64 x) (u64 y) = some (.bool (decide (y ≤ x))) := by
  simp only [binV, u64, binI, if_true, BitVec.le_def, ge_iff_le, Int.ofNat_le]
theorem shl_u64_n (x : BitVec 64) (k : IntKind) (n : Nat) : binV .shl (u64 x) (.int k (n : Int)) = some (u64 (x <<< n)) := by
  have hn : ¬ ((n : Int) < 0) := by omega
  have : BitVec.ofInt 64 ((x.toNat : Int) * 2 ^ (min n 64)) = x <<< n := by
    apply BitVec.eq_of_toNat_eq
    have e : ((x.toNat : Int) * 2 ^ (min n 64)) = ((x.toNat * 2 ^ (min n 64) : Nat) : Int) := by simp
    rw [e, BitVec.ofInt_natCast, BitVec.toNat_ofNat, BitVec.toNat_shiftLeft, Nat.shiftLeft_eq]
    rcases Nat.le_total n 64 with hh | hh
    · rw [Nat.min_eq_left hh]
    · rw [Nat.min_eq_right hh, show n = 64 + (n - 64) by omega, Nat.pow_add]
      rw [Nat.mul_mod_left, ← Nat.mul_assoc, Nat.mul_right_comm, Nat.mul_mod_left]
  simp only [binV, u64, shiftI, hn, if_false, wrap_u64, IntKind.bits, Int.toNat_natCast, this]
theorem shr_u64_n (x : BitVec 64) (k : IntKind) (n : Nat) : binV .shr (u64 x) (.int k (n : Int)) = some (u64 (x >>> n)) := by
  have hn : ¬ ((n : Int) < 0) := by omega
  have : (x.toNat : Int).fdiv (2 ^ (min n 64)) = ((x >>> n).toNat : Int) := by
    have e : (x.toNat : Int).fdiv (2 ^ (min n 64)) = ((x.toNat / 2 ^ (min n 64) : Nat) : Int) := by
      rw [Int.fdiv_eq_ediv_of_nonneg _ (by exact_mod_cast Nat.zero_le _)]
      norm_cast
    rw [e, BitVec.toNat_ushiftRight, Nat.shiftRight_eq_div_pow]
    rcases Nat.le_total n 64 with hh | hh
    · rw [Nat.min_eq_left hh]
    · rw [Nat.min_eq_right hh, Nat.div_eq_of_lt x.isLt, Nat.div_eq_of_lt (Nat.lt_of_lt_of_le x.isLt (Nat.pow_le_pow_right (by decide) hh))]
  simp only [binV, u64, shiftI, hn, if_false, IntKind.bits, Int.toNat_natCast, this]
theorem not_u64 (x : BitVec 64) : unV .xor (u64 x) = some (u64 (~~~ x)) := by
  simp only [unV, u64, IntKind.signed, Bool.false_eq_true, if_false, IntKind.max, IntKind.bits, BitVec.ofInt_natCast, BitVec.ofNat_toNat, BitVec.setWidth_eq, wrap_u64]
  have h : BitVec.ofInt 64 (2 ^ 64 - 1) = BitVec.allOnes 64 := by decide
  rw [h]
  have g : (BitVec.allOnes 64 ^^^ x) = ~~~ x := by rw [BitVec.xor_comm, BitVec.xor_allOnes]
  exact congrArg (fun y : BitVec 64 => some (Value.int .u64 (y.toNat : Int))) g

theorem shl_u8_u8 (x : BitVec 8) (y : BitVec 8) : binV .shl (u8 x) (u8 y) = some (u8 (x <<< y.toNat)) := shl_u8_n x .u8 y.toNat
theorem shr_u8_u8 (x : BitVec 8) (y : BitVec 8) : binV .shr (u8 x) (u8 y) = some (u8 (x >>> y.toNat)) := shr_u8_n x .u8 y.toNat
theorem cvt_u8_u8 (y : BitVec 8) : cvt .u8 (u8 y) = some (u8 (y.setWidth 8)) := by
  simp only [cvt, u8, int_u8, BitVec.ofInt_natCast, BitVec.ofNat_toNat]
theorem shl_u8_u16 (x : BitVec 8) (y : BitVec 16) : binV .shl (u8 x) (u16 y) = some (u8 (x <<< y.toNat)) := shl_u8_n x .u16 y.toNat
theorem shr_u8_u16 (x : BitVec 8) (y : BitVec 16) : binV .shr (u8 x) (u16 y) = some (u8 (x >>> y.toNat)) := shr_u8_n x .u16 y.toNat
theorem cvt_u8_u16 (y : BitVec 16) : cvt .u8 (u16 y) = some (u8 (y.setWidth 8)) := by
  simp only [cvt, u16, int_u8, BitVec.ofInt_natCast, BitVec.ofNat_toNat]
theorem shl_u8_u32 (x : BitVec 8) (y : BitVec 32) : binV .shl (u8 x) (u32 y) = some (u8 (x <<< y.toNat)) := shl_u8_n x .u32 y.toNat
theorem shr_u8_u32 (x : BitVec 8) (y : BitVec 32) : binV .shr (u8 x) (u32 y) = some (u8 (x >>> y.toNat)) := shr_u8_n x .u32 y.toNat
theorem cvt_u8_u32 (y : BitVec 32) : cvt .u8 (u32 y) = some (u8 (y.setWidth 8)) := by
  simp only [cvt, u32, int_u8, BitVec.ofInt_natCast, BitVec.ofNat_toNat]
theorem shl_u8_u64 (x : BitVec 8) (y : BitVec 64) : binV .shl (u8 x) (u64 y) = some (u8 (x <<< y.toNat)) := shl_u8_n x .u64 y.toNat
theorem shr_u8_u64 (x : BitVec 8) (y : BitVec 64) : binV .shr (u8 x) (u64 y) = some (u8 (x >>> y.toNat)) := shr_u8_n x .u64 y.toNat
theorem cvt_u8_u64 (y : BitVec 64) : cvt .u8 (u64 y) = some (u8 (y.setWidth 8)) := by
  simp only [cvt, u64, int_u8, BitVec.ofInt_natCast, BitVec.ofNat_toNat]
theorem cvt_u8_int (k : IntKind) (n : Int) : cvt .u8 (.int k n) = some (u8 (BitVec.ofInt 8 n)) := by
  simp only [cvt, int_u8]
theorem shl_u16_u8 (x : BitVec 16) (y : BitVec 8) : binV .shl (u16 x) (u8 y) = some (u16 (x <<< y.toNat)) := shl_u16_n x .u8 y.toNat
theorem shr_u16_u8 (x : BitVec 16) (y : BitVec 8) : binV .shr (u16 x) (u8 y) = some (u16 (x >>> y.toNat)) := shr_u16_n x .u8 y.toNat
theorem cvt_u16_u8 (y : BitVec 8) : cvt .u16 (u8 y) = some (u16 (y.setWidth 16)) := by
  simp only [cvt, u8, int_u16, BitVec.ofInt_natCast, BitVec.ofNat_toNat]
theorem shl_u16_u16 (x : BitVec 16) (y : BitVec 16) : binV .shl (u16 x) (u16 y) = some (u16 (x <<< y.toNat)) := shl_u16_n x .u16 y.toNat
theorem shr_u16_u16 (x : BitVec 16) (y : BitVec 16) : binV .shr (u16 x) (u16 y) = some (u16 (x >>> y.toNat)) := shr_u16_n x .u16 y.toNat
theorem cvt_u16_u16 (y : BitVec 16) : cvt .u16 (u16 y) = some (u16 (y.setWidth 16)) := by
  simp only [cvt, u16, int_u16, BitVec.ofInt_natCast, BitVec.ofNat_toNat]
theorem shl_u16_u32 (x : BitVec 16) (y : BitVec 32) : binV .shl (u16 x) (u32 y) = some (u16 (x <<< y.toNat)) := shl_u16_n x .u32 y.toNat
theorem shr_u16_u32 (x : BitVec 16) (y : BitVec 32) : binV .shr (u16 x) (u32 y) = some (u16 (x >>> y.toNat)) := shr_u16_n x .u32 y.toNat
theorem cvt_u16_u32 (y : BitVec 32) : cvt .u16 (u32 y) = some (u16 (y.setWidth 16)) := by
  simp only [cvt, u32, int_u16, BitVec.ofInt_natCast, BitVec.ofNat_toNat]
theorem shl_u16_u64 (x : BitVec 16) (y : BitVec 64) : binV .shl (u16 x) (u64 y) = some (u16 (x <<< y.toNat)) := shl_u16_n x .u64 y.toNat
theorem shr_u16_u64 (x : BitVec 16) (y : BitVec 64) : binV .shr (u16 x) (u64 y) = some (u16 (x >>> y.toNat)) := shr_u16_n x .u64 y.toNat
theorem cvt_u16_u64 (y : BitVec 64) : cvt .u16 (u64 y) = some (u16 (y.setWidth 16)) := by
  simp only [cvt, u64, int_u16, BitVec.ofInt_natCast, BitVec.ofNat_toNat]
theorem cvt_u16_int (k : IntKind) (n : Int) : cvt .u16 (.int k n) = some (u16 (BitVec.ofInt 16 n)) := by
  simp only [cvt, int_u16]
theorem shl_u32_u8 (x : BitVec 32) (y : BitVec 8) : binV .shl (u32 x) (u8 y) = some (u32 (x <<< y.toNat)) := shl_u32_n x .u8 y.toNat
theorem shr_u32_u8 (x : BitVec 32) (y : BitVec 8) : binV .shr (u32 x) (u8 y) = some (u32 (x >>> y.toNat)) := shr_u32_n x .u8 y.toNat
theorem cvt_u32_u8 (y : BitVec 8) : cvt .u32 (u8 y) = some (u32 (y.setWidth 32)) := by
  simp only [cvt, u8, int_u32, BitVec.ofInt_natCast, BitVec.ofNat_toNat]
theorem shl_u32_u16 (x : BitVec 32) (y : BitVec 16) : binV .shl (u32 x) (u16 y) = some (u32 (x <<< y.toNat)) := shl_u32_n x .u16 y.toNat
theorem shr_u32_u16 (x : BitVec 32) (y : BitVec 16) : binV .shr (u32 x) (u16 y) = some (u32 (x >>> y.toNat)) := shr_u32_n x .u16 y.toNat
theorem cvt_u32_u16 (y : BitVec 16) : cvt .u32 (u16 y) = some (u32 (y.setWidth 32)) := by
  simp only [cvt, u16, int_u32, BitVec.ofInt_natCast, BitVec.ofNat_toNat]
theorem shl_u32_u32 (x : BitVec 32) (y : BitVec 32) : binV .shl (u32 x) (u32 y) = some (u32 (x <<< y.toNat)) := shl_u32_n x .u32 y.toNat
theorem shr_u32_u32 (x : BitVec 32) (y : BitVec 32) : binV .shr (u32 x) (u32 y) = some (u32 (x >>> y.toNat)) := shr_u32_n x .u32 y.toNat
theorem cvt_u32_u32 (y : BitVec 32) : cvt .u32 (u32 y) = some (u32 (y.setWidth 32)) := by
  simp only [cvt, u32, int_u32, BitVec.ofInt_natCast, BitVec.ofNat_toNat]
theorem shl_u32_u64 (x : BitVec 32) (y : BitVec 64) : binV .shl (u32 x) (u64 y) = some (u32 (x <<< y.toNat)) := shl_u32_n x .u64 y.toNat
theorem shr_u32_u64 (x : BitVec 32) (y : BitVec 64) : binV .shr (u32 x) (u64 y) = some (u32 (x >>> y.toNat)) := shr_u32_n x .u64 y.toNat
theorem cvt_u32_u64 (y : BitVec 64) : cvt .u32 (u64 y) = some (u32 (y.setWidth 32)) := by
  simp only [cvt, u64, int_u32, BitVec.ofInt_natCast, BitVec.ofNat_toNat]
theorem cvt_u32_int (k : IntKind) (n : Int) : cvt .u32 (.int k n) = some (u32 (BitVec.ofInt 32 n)) := by
  simp only [cvt, int_u32]
theorem shl_u64_u8 (x : BitVec 64) (y : BitVec 8) : binV .shl (u64 x) (u8 y) = some (u64 (x <<< y.toNat)) := shl_u64_n x .u8 y.toNat
theorem shr_u64_u8 (x : BitVec 64) (y : BitVec 8) : binV .shr (u64 x) (u8 y) = some (u64 (x >>> y.toNat)) := shr_u64_n x .u8 y.toNat
theorem cvt_u64_u8 (y : BitVec 8) : cvt .u64 (u8 y) = some (u64 (y.setWidth 64)) := by
  simp only [cvt, u8, int_u64, BitVec.ofInt_natCast, BitVec.ofNat_toNat]
theorem shl_u64_u16 (x : BitVec 64) (y : BitVec 16) : binV .shl (u64 x) (u16 y) = some (u64 (x <<< y.toNat)) := shl_u64_n x .u16 y.toNat
theorem shr_u64_u16 (x : BitVec 64) (y : BitVec 16) : binV .shr (u64 x) (u16 y) = some (u64 (x >>> y.toNat)) := shr_u64_n x .u16 y.toNat
theorem cvt_u64_u16 (y : BitVec 16) : cvt .u64 (u16 y) = some (u64 (y.setWidth 64)) := by
  simp only [cvt, u16, int_u64, BitVec.ofInt_natCast, BitVec.ofNat_toNat]
theorem shl_u64_u32 (x : BitVec 64) (y : BitVec 32) : binV .shl (u64 x) (u32 y) = some (u64 (x <<< y.toNat)) := shl_u64_n x .u32 y.toNat
theorem shr_u64_u32 (x : BitVec 64) (y : BitVec 32) : binV .shr (u64 x) (u32 y) = some (u64 (x >>> y.toNat)) := shr_u64_n x .u32 y.toNat
theorem cvt_u64_u32 (y : BitVec 32) : cvt .u64 (u32 y) = some (u64 (y.setWidth 64)) := by
  simp only [cvt, u32, int_u64, BitVec.ofInt_natCast, BitVec.ofNat_toNat]
theorem shl_u64_u64 (x : BitVec 64) (y : BitVec 64) : binV .shl (u64 x) (u64 y) = some (u64 (x <<< y.toNat)) := shl_u64_n x .u64 y.toNat
theorem shr_u64_u64 (x : BitVec 64) (y : BitVec 64) : binV .shr (u64 x) (u64 y) = some (u64 (x >>> y.toNat)) := shr_u64_n x .u64 y.toNat
theorem cvt_u64_u64 (y : BitVec 64) : cvt .u64 (u64 y) = some (u64 (y.setWidth 64)) := by
  simp only [cvt, u64, int_u64, BitVec.ofInt_natCast, BitVec.ofNat_toNat]
theorem cvt_u64_int (k : IntKind) (n : Int) : cvt .u64 (.int k n) = some (u64 (BitVec.ofInt 64 n)) := by
  simp only [cvt, int_u64]

theorem wrap_i64_eq (n : Int) : IntKind.wrap .i64 n = if n % 18446744073709551616 ≥ 9223372036854775808 then n % 18446744073709551616 - 18446744073709551616 else n % 18446744073709551616 := by
  simp [IntKind.wrap, IntKind.signed, IntKind.bits]
theorem wrap_i64 {n : Int} (h : -9223372036854775808 ≤ n) (h' : n < 9223372036854775808) : IntKind.wrap .i64 n = n := by
  rw [wrap_i64_eq]
  split <;> omega
theorem cvt_i64_u8 (y : BitVec 8) : cvt .i64 (u8 y) = some (.int .i64 (y.toNat : Int)) := by
  have h := y.isLt
  have : IntKind.wrap .i64 (y.toNat : Int) = y.toNat := wrap_i64 (by omega) (by omega)
  simp only [cvt, u8, this]
theorem cvt_i64_u16 (y : BitVec 16) : cvt .i64 (u16 y) = some (.int .i64 (y.toNat : Int)) := by
  have h := y.isLt
  have : IntKind.wrap .i64 (y.toNat : Int) = y.toNat := wrap_i64 (by omega) (by omega)
  simp only [cvt, u16, this]
theorem cvt_i64_u32 (y : BitVec 32) : cvt .i64 (u32 y) = some (.int .i64 (y.toNat : Int)) := by
  have h := y.isLt
  have : IntKind.wrap .i64 (y.toNat : Int) = y.toNat := wrap_i64 (by omega) (by omega)
  simp only [cvt, u32, this]

end Go.Dx
