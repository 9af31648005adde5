/- The rules that simp runs code by, beside those of Sx4, Sx5. -/
import Derived.Test.YtppgoobhlcdbbaaSx6
set_option linter.unusedSimpArgs false
set_option linter.unusedVariables false
namespace Go.Dx
open Go

attribute [simp] Hp.rd Hp.cells Hp.wr over goInt get_put_self get_put_ne get_push_self get_push_ne
attribute [simp] add_u8 sub_u8 mul_u8 and_u8 or_u8 xor_u8 andNot_u8 quo_u8 rem_u8 eql_u8 neq_u8 lss_u8 leq_u8 gtr_u8 geq_u8 not_u8 cvt_u8_int shl_u8_u8 shr_u8_u8 cvt_u8_u8 shl_u8_u16 shr_u8_u16 cvt_u8_u16 shl_u8_u32 shr_u8_u32 cvt_u8_u32 shl_u8_u64 shr_u8_u64 cvt_u8_u64
@[simp] theorem k_u8 (n : Nat) (h : n < 256) : Value.int .u8 (no_index (OfNat.ofNat n)) = u8 (BitVec.ofNat 8 n) := lit_u8 n h
attribute [simp] add_u16 sub_u16 mul_u16 and_u16 or_u16 xor_u16 andNot_u16 quo_u16 rem_u16 eql_u16 neq_u16 lss_u16 leq_u16 gtr_u16 geq_u16 not_u16 cvt_u16_int shl_u16_u8 shr_u16_u8 cvt_u16_u8 shl_u16_u16 shr_u16_u16 cvt_u16_u16 shl_u16_u32 shr_u16_u32 cvt_u16_u32 shl_u16_u64 shr_u16_u64 cvt_u16_u64
@[simp] theorem k_u16 (n : Nat) (h : n < 65536) : Value.int .u16 (no_index (OfNat.ofNat n)) = u16 (BitVec.ofNat 16 n) := lit_u16 n h
attribute [simp] add_u32 sub_u32 mul_u32 and_u32 or_u32 xor_u32 andNot_u32 quo_u32 rem_u32 eql_u32 neq_u32 lss_u32 leq_u32 gtr_u32 geq_u32 not_u32 cvt_u32_int shl_u32_u8 shr_u32_u8 cvt_u32_u8 shl_u32_u16 shr_u32_u16 cvt_u32_u16 shl_u32_u32 shr_u32_u32 cvt_u32_u32 shl_u32_u64 shr_u32_u64 cvt_u32_u64
@[simp] theorem k_u32 (n : Nat) (h : n < 4294967296) : Value.int .u32 (no_index (OfNat.ofNat n)) = u32 (BitVec.ofNat 32 n) := lit_u32 n h
attribute [simp] add_u64 sub_u64 mul_u64 and_u64 or_u64 xor_u64 andNot_u64 quo_u64 rem_u64 eql_u64 neq_u64 lss_u64 leq_u64 gtr_u64 geq_u64 not_u64 cvt_u64_int shl_u64_u8 shr_u64_u8 cvt_u64_u8 shl_u64_u16 shr_u64_u16 cvt_u64_u16 shl_u64_u32 shr_u64_u32 cvt_u64_u32 shl_u64_u64 shr_u64_u64 cvt_u64_u64
@[simp] theorem k_u64 (n : Nat) (h : n < 18446744073709551616) : Value.int .u64 (no_index (OfNat.ofNat n)) = u64 (BitVec.ofNat 64 n) := lit_u64 n h
attribute [simp] cvt_i64_u8 cvt_i64_u16 cvt_i64_u32
section
variable (a b : Int)
@[simp] theorem add_i64 : binV .add (.int .i64 a) (.int .i64 b) = some (.int .i64 (IntKind.i64.wrap (a + b))) := rfl
@[simp] theorem sub_i64 : binV .sub (.int .i64 a) (.int .i64 b) = some (.int .i64 (IntKind.i64.wrap (a - b))) := rfl
@[simp] theorem mul_i64 : binV .mul (.int .i64 a) (.int .i64 b) = some (.int .i64 (IntKind.i64.wrap (a * b))) := rfl
@[simp] theorem quo_i64 (h : b ≠ 0) : binV .quo (.int .i64 a) (.int .i64 b) = some (.int .i64 (IntKind.i64.wrap (a.tdiv b))) := by simp [binV, binI, h]
@[simp] theorem rem_i64 (h : b ≠ 0) : binV .rem (.int .i64 a) (.int .i64 b) = some (.int .i64 (a.tmod b)) := by simp [binV, binI, h]
@[simp] theorem eql_i64 : binV .eql (.int .i64 a) (.int .i64 b) = some (.bool (decide (a = b))) := rfl
@[simp] theorem neq_i64 : binV .neq (.int .i64 a) (.int .i64 b) = some (.bool (!decide (a = b))) := rfl
@[simp] theorem lss_i64 : binV .lss (.int .i64 a) (.int .i64 b) = some (.bool (decide (a < b))) := rfl
@[simp] theorem leq_i64 : binV .leq (.int .i64 a) (.int .i64 b) = some (.bool (decide (a ≤ b))) := rfl
@[simp] theorem gtr_i64 : binV .gtr (.int .i64 a) (.int .i64 b) = some (.bool (decide (b < a))) := rfl
@[simp] theorem geq_i64 : binV .geq (.int .i64 a) (.int .i64 b) = some (.bool (decide (b ≤ a))) := rfl
@[simp] theorem neg_i64 : unV .neg (.int .i64 a) = some (.int .i64 (IntKind.i64.wrap (0 - a))) := rfl
@[simp] theorem cvt_i64_int (k : IntKind) : cvt .i64 (.int k a) = some (.int .i64 (IntKind.i64.wrap a)) := rfl
end
attribute [simp] wrap_i64
theorem shl_u32_I (x : BitVec 32) {k : IntKind} {n : Int} (hn : 0 ≤ n) : binV .shl (u32 x) (.int k n) = some (u32 (x <<< n.toNat)) := by
  obtain ⟨m, rfl⟩ := Int.eq_ofNat_of_zero_le hn
  exact shl_u32_n x k m
theorem shr_u32_I (x : BitVec 32) {k : IntKind} {n : Int} (hn : 0 ≤ n) : binV .shr (u32 x) (.int k n) = some (u32 (x >>> n.toNat)) := by
  obtain ⟨m, rfl⟩ := Int.eq_ofNat_of_zero_le hn
  exact shr_u32_n x k m

theorem shl_i64_n (a : Int) (k : IntKind) (n : Nat) : binV .shl (.int .i64 a) (.int k (n : Int)) = some (.int .i64 (IntKind.i64.wrap (a * 2 ^ (min n 64)))) := by
  have hn : ¬ ((n : Int) < 0) := by omega
  simp [binV, shiftI, hn, IntKind.bits]
theorem shr_i64_n (a : Int) (k : IntKind) (n : Nat) : binV .shr (.int .i64 a) (.int k (n : Int)) = some (.int .i64 (a.fdiv (2 ^ (min n 64)))) := by
  have hn : ¬ ((n : Int) < 0) := by omega
  simp [binV, shiftI, hn, IntKind.bits]
@[simp] theorem shl_i64_u64 (a : Int) (y : BitVec 64) : binV .shl (.int .i64 a) (u64 y) = some (.int .i64 (IntKind.i64.wrap (a * 2 ^ (min y.toNat 64)))) := shl_i64_n a .u64 y.toNat
@[simp] theorem shr_i64_u64 (a : Int) (y : BitVec 64) : binV .shr (.int .i64 a) (u64 y) = some (.int .i64 (a.fdiv (2 ^ (min y.toNat 64)))) := shr_i64_n a .u64 y.toNat

theorem eqAt_int {n : Nat} {k : IntKind} {a b : Int} : eqAt (n + 1) (.int k) (.int k a) (.int k b) = some (decide (a = b)) := by
  simp [eqAt]
  rfl
theorem eqAt_bool {n : Nat} {a b : Bool} : eqAt (n + 1) .bool (.bool a) (.bool b) = some (decide (a = b)) := rfl
@[simp] theorem eqAt_int20 (k : IntKind) (a b : Int) : eqAt 20 (.int k) (.int k a) (.int k b) = some (decide (a = b)) := eqAt_int (n := 19)
@[simp] theorem eqAt_bool20 (a b : Bool) : eqAt 20 .bool (.bool a) (.bool b) = some (decide (a = b)) := rfl
@[simp] theorem eqAt_u820 (a b : BitVec 8) : eqAt 20 (.int .u8) (u8 a) (u8 b) = some (decide (a = b)) := by
  have h := eqAt_int (n := 19) (k := .u8) (a := (a.toNat : Int)) (b := (b.toNat : Int))
  have e : decide ((a.toNat : Int) = (b.toNat : Int)) = decide (a = b) := by
    rw [decide_eq_decide]
    exact ⟨fun h => BitVec.eq_of_toNat_eq (by omega), fun h => by rw [h]⟩
  rw [e] at h
  exact h
@[simp] theorem eqAt_u3220 (a b : BitVec 32) : eqAt 20 (.int .u32) (u32 a) (u32 b) = some (decide (a = b)) := by
  have h := eqAt_int (n := 19) (k := .u32) (a := (a.toNat : Int)) (b := (b.toNat : Int))
  have e : decide ((a.toNat : Int) = (b.toNat : Int)) = decide (a = b) := by
    rw [decide_eq_decide]
    exact ⟨fun h => BitVec.eq_of_toNat_eq (by omega), fun h => by rw [h]⟩
  rw [e] at h
  exact h
@[simp] theorem eqAt_u6420 (a b : BitVec 64) : eqAt 20 (.int .u64) (u64 a) (u64 b) = some (decide (a = b)) := by
  have h := eqAt_int (n := 19) (k := .u64) (a := (a.toNat : Int)) (b := (b.toNat : Int))
  have e : decide ((a.toNat : Int) = (b.toNat : Int)) = decide (a = b) := by
    rw [decide_eq_decide]
    exact ⟨fun h => BitVec.eq_of_toNat_eq (by omega), fun h => by rw [h]⟩
  rw [e] at h
  exact h
@[simp] theorem eqAt_int19 (k : IntKind) (a b : Int) : eqAt 19 (.int k) (.int k a) (.int k b) = some (decide (a = b)) := eqAt_int (n := 18)
@[simp] theorem eqAt_bool19 (a b : Bool) : eqAt 19 .bool (.bool a) (.bool b) = some (decide (a = b)) := rfl
@[simp] theorem eqAt_u819 (a b : BitVec 8) : eqAt 19 (.int .u8) (u8 a) (u8 b) = some (decide (a = b)) := by
  have h := eqAt_int (n := 18) (k := .u8) (a := (a.toNat : Int)) (b := (b.toNat : Int))
  have e : decide ((a.toNat : Int) = (b.toNat : Int)) = decide (a = b) := by
    rw [decide_eq_decide]
    exact ⟨fun h => BitVec.eq_of_toNat_eq (by omega), fun h => by rw [h]⟩
  rw [e] at h
  exact h
@[simp] theorem eqAt_u3219 (a b : BitVec 32) : eqAt 19 (.int .u32) (u32 a) (u32 b) = some (decide (a = b)) := by
  have h := eqAt_int (n := 18) (k := .u32) (a := (a.toNat : Int)) (b := (b.toNat : Int))
  have e : decide ((a.toNat : Int) = (b.toNat : Int)) = decide (a = b) := by
    rw [decide_eq_decide]
    exact ⟨fun h => BitVec.eq_of_toNat_eq (by omega), fun h => by rw [h]⟩
  rw [e] at h
  exact h
@[simp] theorem eqAt_u6419 (a b : BitVec 64) : eqAt 19 (.int .u64) (u64 a) (u64 b) = some (decide (a = b)) := by
  have h := eqAt_int (n := 18) (k := .u64) (a := (a.toNat : Int)) (b := (b.toNat : Int))
  have e : decide ((a.toNat : Int) = (b.toNat : Int)) = decide (a = b) := by
    rw [decide_eq_decide]
    exact ⟨fun h => BitVec.eq_of_toNat_eq (by omega), fun h => by rw [h]⟩
  rw [e] at h
  exact h
@[simp] theorem eqAt_int18 (k : IntKind) (a b : Int) : eqAt 18 (.int k) (.int k a) (.int k b) = some (decide (a = b)) := eqAt_int (n := 17)
@[simp] theorem eqAt_bool18 (a b : Bool) : eqAt 18 .bool (.bool a) (.bool b) = some (decide (a = b)) := rfl
@[simp] theorem eqAt_u818 (a b : BitVec 8) : eqAt 18 (.int .u8) (u8 a) (u8 b) = some (decide (a = b)) := by
  have h := eqAt_int (n := 17) (k := .u8) (a := (a.toNat : Int)) (b := (b.toNat : Int))
  have e : decide ((a.toNat : Int) = (b.toNat : Int)) = decide (a = b) := by
    rw [decide_eq_decide]
    exact ⟨fun h => BitVec.eq_of_toNat_eq (by omega), fun h => by rw [h]⟩
  rw [e] at h
  exact h
@[simp] theorem eqAt_u3218 (a b : BitVec 32) : eqAt 18 (.int .u32) (u32 a) (u32 b) = some (decide (a = b)) := by
  have h := eqAt_int (n := 17) (k := .u32) (a := (a.toNat : Int)) (b := (b.toNat : Int))
  have e : decide ((a.toNat : Int) = (b.toNat : Int)) = decide (a = b) := by
    rw [decide_eq_decide]
    exact ⟨fun h => BitVec.eq_of_toNat_eq (by omega), fun h => by rw [h]⟩
  rw [e] at h
  exact h
@[simp] theorem eqAt_u6418 (a b : BitVec 64) : eqAt 18 (.int .u64) (u64 a) (u64 b) = some (decide (a = b)) := by
  have h := eqAt_int (n := 17) (k := .u64) (a := (a.toNat : Int)) (b := (b.toNat : Int))
  have e : decide ((a.toNat : Int) = (b.toNat : Int)) = decide (a = b) := by
    rw [decide_eq_decide]
    exact ⟨fun h => BitVec.eq_of_toNat_eq (by omega), fun h => by rw [h]⟩
  rw [e] at h
  exact h
@[simp] theorem eqAt_int17 (k : IntKind) (a b : Int) : eqAt 17 (.int k) (.int k a) (.int k b) = some (decide (a = b)) := eqAt_int (n := 16)
@[simp] theorem eqAt_bool17 (a b : Bool) : eqAt 17 .bool (.bool a) (.bool b) = some (decide (a = b)) := rfl
@[simp] theorem eqAt_u817 (a b : BitVec 8) : eqAt 17 (.int .u8) (u8 a) (u8 b) = some (decide (a = b)) := by
  have h := eqAt_int (n := 16) (k := .u8) (a := (a.toNat : Int)) (b := (b.toNat : Int))
  have e : decide ((a.toNat : Int) = (b.toNat : Int)) = decide (a = b) := by
    rw [decide_eq_decide]
    exact ⟨fun h => BitVec.eq_of_toNat_eq (by omega), fun h => by rw [h]⟩
  rw [e] at h
  exact h
@[simp] theorem eqAt_u3217 (a b : BitVec 32) : eqAt 17 (.int .u32) (u32 a) (u32 b) = some (decide (a = b)) := by
  have h := eqAt_int (n := 16) (k := .u32) (a := (a.toNat : Int)) (b := (b.toNat : Int))
  have e : decide ((a.toNat : Int) = (b.toNat : Int)) = decide (a = b) := by
    rw [decide_eq_decide]
    exact ⟨fun h => BitVec.eq_of_toNat_eq (by omega), fun h => by rw [h]⟩
  rw [e] at h
  exact h
@[simp] theorem eqAt_u6417 (a b : BitVec 64) : eqAt 17 (.int .u64) (u64 a) (u64 b) = some (decide (a = b)) := by
  have h := eqAt_int (n := 16) (k := .u64) (a := (a.toNat : Int)) (b := (b.toNat : Int))
  have e : decide ((a.toNat : Int) = (b.toNat : Int)) = decide (a = b) := by
    rw [decide_eq_decide]
    exact ⟨fun h => BitVec.eq_of_toNat_eq (by omega), fun h => by rw [h]⟩
  rw [e] at h
  exact h
def mnV : Value → Value → Option Value
  | .int k a, .int j b => if k = j then some (.int k (if b < a then b else a)) else none
  | _, _ => none
def mxV : Value → Value → Option Value
  | .int k a, .int j b => if k = j then some (.int k (if b > a then b else a)) else none
  | _, _ => none
@[simp] theorem opV_mn {e : Env} {h : Hp} {x y : X} : opV e h (.mn x y) = (mnV (x.ev e) (y.ev e)).map fun v => (v, h) := by
  simp only [opV]
  generalize x.ev e = a
  generalize y.ev e = b
  cases a <;> first | rfl | (cases b <;> first | rfl | (simp only [mnV]; split <;> rfl))
@[simp] theorem opV_mx {e : Env} {h : Hp} {x y : X} : opV e h (.mx x y) = (mxV (x.ev e) (y.ev e)).map fun v => (v, h) := by
  simp only [opV]
  generalize x.ev e = a
  generalize y.ev e = b
  cases a <;> first | rfl | (cases b <;> first | rfl | (simp only [mxV]; split <;> rfl))
@[simp] theorem mnV_i64 (a b : Int) : mnV (.int .i64 a) (.int .i64 b) = some (.int .i64 (if b < a then b else a)) := rfl
@[simp] theorem mxV_u32 (a b : BitVec 32) : mxV (u32 a) (u32 b) = some (u32 (if a < b then b else a)) := by
  simp only [mxV, u32, if_true]
  by_cases h : a < b
  · have h' : (b.toNat : Int) > a.toNat := by have := BitVec.lt_def.1 h; omega
    rw [if_pos h', if_pos h]
  · have h' : ¬ (b.toNat : Int) > a.toNat := by have := mt BitVec.lt_def.2 h; omega
    rw [if_neg h', if_neg h]
@[simp] theorem mnV_u32 (a b : BitVec 32) : mnV (u32 a) (u32 b) = some (u32 (if b < a then b else a)) := by
  simp only [mnV, u32, if_true]
  by_cases h : b < a
  · have h' : (b.toNat : Int) < a.toNat := by have := BitVec.lt_def.1 h; omega
    rw [if_pos h', if_pos h]
  · have h' : ¬ (b.toNat : Int) < a.toNat := by have := mt BitVec.lt_def.2 h; omega
    rw [if_neg h', if_neg h]
@[simp] theorem mxV_i64 (a b : Int) : mxV (.int .i64 a) (.int .i64 b) = some (.int .i64 (if b > a then b else a)) := rfl
def stnV (n : Nat) (h : Hp) (p : Nat × Nat) : Value → Option (Value × Hp)
  | .agg cs => if cs.size = n then (h.wr p.1 p.2 cs.toList).map fun h => (undef, h) else none
  | _ => none
section
variable {e : Env} {h : Hp} {x y z : X}
@[simp] theorem opV_stn {n : Nat} : opV e h (.stn n x y) = (at? (x.ev e)).bind fun p => stnV n h p (y.ev e) := by
  simp only [opV, stnV]
  generalize y.ev e = v
  cases v <;> rfl
@[simp] theorem stnV_agg {n : Nat} {p : Nat × Nat} {cs : Array Value} : stnV n h p (.agg cs) = if cs.size = n then (h.wr p.1 p.2 cs.toList).map fun h => (undef, h) else none := rfl
end
attribute [simp] opA fillIn evp
@[simp] theorem one_slice (a : Option Addr) (n c : Nat) : one (.slice a n c) = true := rfl
@[simp] theorem one_pointer (a : Option Addr) : one (.pointer a) = true := rfl
@[simp] theorem one_string (s : ByteArray) : one (.string s) = true := rfl
@[simp] theorem one_chan (r : Option Nat) : one (.chan r) = true := rfl
@[simp] theorem one_func (f : Go.Fn) (a b : Array Value) : one (.func f a b) = true := rfl
@[simp] theorem rv_t {e : Env} {h : Hp} {n : Nat} : rv e h (.t n) = some (e n) := rfl
@[simp] theorem rv_ld {e : Env} {h : Hp} {n : Nat} : rv e h (.ld n) = (at? (e n)).bind fun p => h.rd p.1 p.2 := rfl
@[simp] theorem rv_ldn {e : Env} {h : Hp} {k n : Nat} : rv e h (.ldn k n) = (at? (e n)).bind fun p => (h.rdn p.1 p.2 k).map fun c => .agg c.toArray := rfl
@[simp] theorem resV_1 {e : Env} {h : Hp} {a : RV} : resV e h [a] = rv e h a := rfl
@[simp] theorem resV_2 {e : Env} {h : Hp} {a b : RV} : resV e h [a, b] = (rv e h a).bind fun x => (rv e h b).map fun y => .tuple #[x, y] := by
  simp only [resV, List.mapM_cons, List.mapM_nil]
  cases rv e h a <;> cases rv e h b <;> rfl
@[simp] theorem resV_3 {e : Env} {h : Hp} {a b c : RV} : resV e h [a, b, c] = (rv e h a).bind fun x => (rv e h b).bind fun y => (rv e h c).map fun z => .tuple #[x, y, z] := by
  simp only [resV, List.mapM_cons, List.mapM_nil]
  cases rv e h a <;> cases rv e h b <;> cases rv e h c <;> rfl
@[simp] theorem get_push_at {h : Hp} {b : Nat} {o : Ob} (hb : b ≤ h.next) (hc : h.next ≤ b) : (h.push o).get b = some o := by
  rw [Nat.le_antisymm hb hc]
  exact get_push_self
@[simp] theorem isJ_int (k : IntKind) (n : Int) : isJ (.int k n) = false := rfl
@[simp] theorem isJ_bool (b : Bool) : isJ (.bool b) = false := rfl
@[simp] theorem isJ_agg (a : Array Value) : isJ (.agg a) = false := rfl
@[simp] theorem isJ_tuple (a : Array Value) : isJ (.tuple a) = false := rfl
@[simp] theorem isJ_slice (a : Option Addr) (n c : Nat) : isJ (.slice a n c) = false := rfl
@[simp] theorem isJ_pointer (a : Option Addr) : isJ (.pointer a) = false := rfl
@[simp] theorem isJ_string (s : ByteArray) : isJ (.string s) = false := rfl
@[simp] theorem isJ_chan (r : Option Nat) : isJ (.chan r) = false := rfl
@[simp] theorem isJ_map (r : Option Nat) : isJ (.map r) = false := rfl
@[simp] theorem isJ_func (f : Go.Fn) (a b : Array Value) : isJ (.func f a b) = false := rfl
@[simp] theorem isJ_u8 (x : BitVec 8) : isJ (u8 x) = false := rfl
@[simp] theorem isJ_u16 (x : BitVec 16) : isJ (u16 x) = false := rfl
@[simp] theorem isJ_u32 (x : BitVec 32) : isJ (u32 x) = false := rfl
@[simp] theorem isJ_u64 (x : BitVec 64) : isJ (u64 x) = false := rfl
@[simp] theorem isJ_ptr (b o : Nat) : isJ (ptr b o) = false := rfl
@[simp] theorem cells_int (k : IntKind) (n : Int) : (Value.int k n).cells = #[.int k n] := rfl
@[simp] theorem cells_u8 (x : BitVec 8) : (u8 x).cells = #[u8 x] := rfl
@[simp] theorem cells_u16 (x : BitVec 16) : (u16 x).cells = #[u16 x] := rfl
@[simp] theorem cells_u32 (x : BitVec 32) : (u32 x).cells = #[u32 x] := rfl
@[simp] theorem cells_u64 (x : BitVec 64) : (u64 x).cells = #[u64 x] := rfl
@[simp] theorem cells_bool (b : Bool) : (Value.bool b).cells = #[.bool b] := rfl
@[simp] theorem cells_ptr (b o : Nat) : (ptr b o).cells = #[ptr b o] := rfl
@[simp] theorem cells_pointer (a : Option Addr) : (Value.pointer a).cells = #[.pointer a] := rfl
@[simp] theorem cells_slice (a : Option Addr) (n c : Nat) : (Value.slice a n c).cells = #[.slice a n c] := rfl
@[simp] theorem cells_string (s : ByteArray) : (Value.string s).cells = #[.string s] := rfl
@[simp] theorem cells_agg (a : Array Value) : (Value.agg a).cells = a := rfl

section
variable {T : Nat → Option Fn} {Q : Ex → Env → Hp → Prop} {k : List Fr} {e : Env} {h : Hp} {c : C}
theorem G_app {l : List Fr} {c : C} {e : Env} {h : Hp} : G T Q c k e h ↔ G T (GR T Q k) c [] e h := by
  unfold G
  exact ⟨fun hw => hw.mono fun x e h hq => by simpa using hq, fun hw => hw.mono fun x e h hq => by simpa using hq⟩
theorem G.mono {Q' : Ex → Env → Hp → Prop} (hw : G T Q c [] e h) (hq : ∀ x e h, Q x e h → Q' x e h) : G T Q' c [] e h :=
  W.mono hw fun x e h hx => by simp at hx ⊢; exact hq _ _ _ hx
def EndN (S : Env → Hp → Prop) : Ex → Env → Hp → Prop
  | .n, e, h => S e h
  | _, _, _ => False
@[simp] theorem EndN_n {S : Env → Hp → Prop} : EndN S .n e h ↔ S e h := Iff.rfl
@[simp] theorem EndN_r {S : Env → Hp → Prop} : EndN S .r e h ↔ False := Iff.rfl
@[simp] theorem EndN_x {S : Env → Hp → Prop} {j : Nat} : EndN S (.x j) e h ↔ False := Iff.rfl
/-- A piece of code by itself, what holds behind it, and what is left. -/
theorem G_mid (R : Env → Hp → Prop) (h1 : ∀ S : Env → Hp → Prop, (∀ e h, R e h → S e h) → G T (EndN S) c [] e h) (h2 : ∀ e h, R e h → GR T Q k .n e h) : G T Q c k e h :=
  (G_app (l := [])).2 ((h1 R fun _ _ hr => hr).mono fun x e h hx => by
    cases x with
    | n => exact h2 _ _ hx
    | _ => exact hx.elim)
theorem GC_intro {f : Nat} {args : List Value} {d : Option Nat} {l : List O} {q : Value → Hp → Prop} (h1 : WC T f args h q) (h2 : ∀ v h, q v h → GO T Q l k (put e d v) h) : GC T Q f args d l k e h :=
  h1.mono h2
end

/-- All that was there is there. -/
structure Kp (g h : Hp) : Prop where
  le : g.next ≤ h.next
  get : ∀ b, b < g.next → h.get b = g.get b
theorem Kp.refl (h : Hp) : Kp h h := ⟨Nat.le_refl _, fun _ _ => rfl⟩
theorem Kp.trans {a b c : Hp} (x : Kp a b) (y : Kp b c) : Kp a c := ⟨Nat.le_trans x.le y.le, fun k hk => (y.get k (Nat.lt_of_lt_of_le hk x.le)).trans (x.get k hk)⟩
theorem Kp.push {g h : Hp} (x : Kp g h) (o : Ob) : Kp g (h.push o) := ⟨Nat.le_succ_of_le x.le, fun k hk => by
  have := x.le
  rw [get_push_ne (by omega)]
  exact x.get k hk⟩
theorem Kp.put {g h : Hp} (x : Kp g h) {b : Nat} (hb : g.next ≤ b) (o : Option Ob) : Kp g (h.put b o) := ⟨x.le, fun k hk => by
  rw [get_put_ne (by omega)]
  exact x.get k hk⟩
theorem Kp.adv {g h : Hp} (x : Kp g h) (n : Nat) : Kp g (h.adv n) := ⟨Nat.le_trans x.le (Nat.le_add_right _ _), x.get⟩

theorem lt_of_rdn {h : Hp} {b o n : Nat} {c : List Value} (hr : h.rdn b o n = some c) : b < h.next := by
  rcases Nat.lt_or_ge b h.next with hl | hl
  · exact hl
  · simp [Hp.rdn, h.wf b hl] at hr
theorem iaV_at {sz i n c : Nat} {k : IntKind} {A : Addr} (hi : i < n) : iaV sz (.int k (i : Int)) (.slice (some A) n c) = some (ptr A.block (A.off + i * sz)) := by
  simp [iaV, indexA, hi]
@[simp] theorem iaV_int {sz n c : Nat} {i : Int} {k : IntKind} {A : Addr} (h0 : 0 ≤ i) (hi : i < n) : iaV sz (.int k i) (.slice (some A) n c) = some (ptr A.block (A.off + i.toNat * sz)) := by
  simp [iaV, indexA, hi, h0]
end Go.Dx
