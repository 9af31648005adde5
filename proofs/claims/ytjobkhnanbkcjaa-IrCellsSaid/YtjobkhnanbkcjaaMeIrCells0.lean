/- Texts of one kind, one behind the other. -/
import Derived.Test.YtjobkhnanbkcjaaMd1
import Derived.Test.YtjobkhnanbkcjaaMc0
/- Words of 32 bits: what each function does. -/
set_option maxRecDepth 1000000
set_option linter.unusedSimpArgs false
set_option linter.unusedVariables false
namespace Go.Proofs.Ytjobkhnanbkcjaa.Cd
open Go Go.Dx
section
attribute [local congr] ite_ctx
variable {h : Hp} {q : Value → Hp → Prop} {a b : BitVec 32}
theorem word_less {s : Bool} : WC T n_word_Less [u32 a, u32 b, .bool s] h q ↔ q (.bool (less a b s)) h := by
  rw [w_word_Less]
  simp (maxSteps := 10000000) (disch := first | assumption | ((try simp only [push_next, put_next, adv_next, List.length_cons, List.length_nil, List.length_map, List.length_set]); omega) | simp) []
  cases s <;> simp [less, BitVec.lt_def]
theorem ir_one {s : Bool} : WC T n_ir_one [.bool s] h q ↔ q (u32 (b1 s)) h := by
  rw [w_ir_one]
  simp (maxSteps := 10000000) (disch := first | assumption | ((try simp only [push_next, put_next, adv_next, List.length_cons, List.length_nil, List.length_map, List.length_set]); omega) | simp) []
  cases s <;> simp [b1]
theorem word_sar {n : Int} : WC T n_word_Sar [u32 a, .int .i64 n] h q ↔ q (u32 (sar a (n % 32).toNat)) h := by
  rw [w_word_Sar]
  have h1 : ((n % 32).toNat : Int) = n % 32 := by omega
  have h2 := shr_i32 .i64 a (n % 32).toNat (by omega)
  rw [h1] at h2
  simp (maxSteps := 10000000) (disch := first | assumption | ((try simp only [push_next, put_next, adv_next, List.length_cons, List.length_nil, List.length_map, List.length_set]); omega) | simp) [and_31, h2, cvt_u32_i32]
theorem word_mul {s : Bool} : WC T n_word_Mul [u32 a, u32 b, .bool s] h q ↔ q (.tuple #[u32 (mulHi a b s), u32 (a * b)]) h := by
  rw [w_word_Mul]
  have h1 := mul_lo a b s
  simp (maxSteps := 10000000) (disch := first | assumption | ((try simp only [push_next, put_next, adv_next, List.length_cons, List.length_nil, List.length_map, List.length_set]); omega) | simp) [ofInt_wrap64, hi64, lo64, mul64]
  cases s <;> simp [mulHi, ← h1] <;> simp [mulI]
theorem word_div {s : Bool} : WC T n_word_Div [u32 a, u32 b, .bool s] h q ↔ q (.tuple #[u32 (divQ a b s), u32 (divR a b s)]) h := by
  rw [w_word_Div]
  by_cases hb : b = 0#32
  · simp (maxSteps := 10000000) (disch := first | assumption | ((try simp only [push_next, put_next, adv_next, List.length_cons, List.length_nil, List.length_map, List.length_set]); omega) | simp) [hb, divQ, divR]
  cases s
  · simp (maxSteps := 10000000) (disch := first | assumption | ((try simp only [push_next, put_next, adv_next, List.length_cons, List.length_nil, List.length_map, List.length_set]); omega) | simp) [hb, divQ, divR]
  · have hz := wide_zero b true hb
    have h1 := divQ_wide a b true hb
    have h2 := divR_wide a b true hb
    simp [wide] at hz h1 h2
    simp (maxSteps := 10000000) (disch := first | assumption | ((try simp only [push_next, put_next, adv_next, List.length_cons, List.length_nil, List.length_map, List.length_set]); omega) | simp) [hb, h1, h2, hz]
theorem ref_wide {s : Bool} : WC T n_pianolaref1_wide [u32 a, .bool s] h q ↔ q (.int .i64 (wide a s)) h := by
  rw [w_pianolaref1_wide]
  have hb := a.isLt
  cases s
  · simp (maxSteps := 10000000) (disch := first | assumption | ((try simp only [push_next, put_next, adv_next, List.length_cons, List.length_nil, List.length_map, List.length_set]); omega) | simp) [wide]
  · by_cases h1 : 2147483648 ≤ a.toNat
    · have h2 := toInt_of_ge a h1
      have h3 := toInt_bound a
      simp (maxSteps := 10000000) (disch := first | assumption | ((try simp only [push_next, put_next, adv_next, List.length_cons, List.length_nil, List.length_map, List.length_set]); omega) | simp) [wide, BitVec.le_def, h1, h2]
    · have h2 := toInt_of_lt a h1
      simp (maxSteps := 10000000) (disch := first | assumption | ((try simp only [push_next, put_next, adv_next, List.length_cons, List.length_nil, List.length_map, List.length_set]); omega) | simp) [wide, BitVec.le_def, h1, h2]
theorem ref_less {s : Bool} : WC T n_pianolaref1_Less [u32 a, u32 b, .bool s] h q ↔ q (.bool (less a b s)) h := by
  rw [w_pianolaref1_Less]
  simp (maxSteps := 10000000) (disch := first | assumption | ((try simp only [push_next, put_next, adv_next, List.length_cons, List.length_nil, List.length_map, List.length_set]); omega) | simp) [GC_of (fun q => ref_wide), less_wide]
theorem ref_mul {s : Bool} : WC T n_pianolaref1_Mul [u32 a, u32 b, .bool s] h q ↔ q (.tuple #[u32 (mulHi a b s), u32 (a * b)]) h := by
  rw [w_pianolaref1_Mul]
  have h1 := mul_lo a b false
  have e : mulHi a b false = BitVec.ofInt 32 (mulI a b false / 4294967296) := rfl
  cases s
  · simp (maxSteps := 10000000) (disch := first | assumption | ((try simp only [push_next, put_next, adv_next, List.length_cons, List.length_nil, List.length_map, List.length_set]); omega) | simp) [ofInt_wrap64, hi64, lo64, mul64, h1, e]
  · have h2 := mul_hi_ref a b
    by_cases ha : 2147483648 ≤ a.toNat <;> by_cases hb : 2147483648 ≤ b.toNat <;> simp only [ha, hb, if_true, if_false, BitVec.sub_zero] at h2 <;>
      simp (maxSteps := 10000000) (disch := first | assumption | ((try simp only [push_next, put_next, adv_next, List.length_cons, List.length_nil, List.length_map, List.length_set]); omega) | simp) [ofInt_wrap64, hi64, lo64, mul64, h1, BitVec.le_def, ha, hb, h2]
theorem ref_div {s : Bool} : WC T n_pianolaref1_Div [u32 a, u32 b, .bool s] h q ↔ q (.tuple #[u32 (divQ a b s), u32 (divR a b s)]) h := by
  rw [w_pianolaref1_Div]
  by_cases hb : b = 0#32
  · simp (maxSteps := 10000000) (disch := first | assumption | ((try simp only [push_next, put_next, adv_next, List.length_cons, List.length_nil, List.length_map, List.length_set]); omega) | simp) [hb, divQ, divR]
  · have hz := wide_zero b s hb
    simp (maxSteps := 10000000) (disch := first | assumption | ((try simp only [push_next, put_next, adv_next, List.length_cons, List.length_nil, List.length_map, List.length_set]); omega) | simp) [hb, GC_of (fun q => ref_wide), hz, divQ_wide a b s hb, divR_wide a b s hb]
theorem ref_bit {s : Bool} : WC T n_pianolaref18_bit [.bool s] h q ↔ q (u32 (b1 s)) h := by
  rw [w_pianolaref18_bit]
  simp (maxSteps := 10000000) (disch := first | assumption | ((try simp only [push_next, put_next, adv_next, List.length_cons, List.length_nil, List.length_map, List.length_set]); omega) | simp) []
  cases s <;> simp [b1]
end
end Go.Proofs.Ytjobkhnanbkcjaa.Cd

/- Small operations: what each function does. -/
set_option maxRecDepth 1000000
set_option maxHeartbeats 4000000
set_option linter.unusedSimpArgs false
set_option linter.unusedVariables false
namespace Go.Proofs.Ytjobkhnanbkcjaa.Cd
open Go Go.Dx
section
attribute [local congr] ite_ctx
variable {h : Hp} {q : Value → Hp → Prop} {a b : BitVec 32}
theorem len32 : WC T n_math_bits_Len32 [u32 a] h q ↔ q (.int .i64 (lenN a.toNat)) h := by
  have ha := a.isLt
  have fin : ∀ (w : BitVec 32) (k : Nat), w.toNat < 256 → k ≤ 24 → IntKind.i64.wrap ((k : Int) + IntKind.i64.wrap (lenN (BitVec.setWidth 8 w).toNat : Int)) = (k + lenN w.toNat : Nat) := fun w k hw hk => by
    have e : (BitVec.setWidth 8 w).toNat = w.toNat := by simp; omega
    have := lenN_le (n := w.toNat) (k := 8) (by omega)
    rw [e, wrap_i64 (n := (lenN w.toNat : Int)) (by omega) (by omega), wrap_i64 (by omega) (by omega)]
    omega
  have s16 : (a >>> 16).toNat = a.toNat >>> 16 := by simp
  have s24 : (a >>> 24).toNat = a.toNat >>> 24 := by simp
  have s8 : (a >>> 8).toNat = a.toNat >>> 8 := by simp
  rw [w_math_bits_Len32]
  by_cases h1 : 65536#32 ≤ a
  · have g1 : 65536 ≤ a.toNat := h1
    have l1 := lenN_shift (n := a.toNat) (k := 16) g1
    by_cases h2 : 256#32 ≤ a >>> 16
    · have g2 : 256 ≤ (a >>> 16).toNat := h2
      rw [s16] at g2
      have l2 := lenN_shift (n := a.toNat >>> 16) (k := 8) g2
      rw [← Nat.shiftRight_add] at l2
      have f := fin (a >>> 24) 24 (by rw [s24, Nat.shiftRight_eq_div_pow]; omega) (by omega)
      rw [s24] at f
      simp at f
      simp (maxSteps := 10000000) (disch := first | assumption | ((try simp only [push_next, put_next, adv_next, List.length_cons, List.length_nil, List.length_map, List.length_set]); omega) | simp) [h1, h2, len8, f]
      rw [l1, l2]
      simp [← Int.add_assoc]
    · have g2 : ¬ 256 ≤ (a >>> 16).toNat := h2
      have f := fin (a >>> 16) 16 (by omega) (by omega)
      rw [s16] at f
      simp at f
      simp (maxSteps := 10000000) (disch := first | assumption | ((try simp only [push_next, put_next, adv_next, List.length_cons, List.length_nil, List.length_map, List.length_set]); omega) | simp) [h1, h2, len8, f]
      rw [l1]
      simp
  · have g1 : ¬ 65536 ≤ a.toNat := h1
    by_cases h2 : 256#32 ≤ a
    · have g2 : 256 ≤ a.toNat := h2
      have l1 := lenN_shift (n := a.toNat) (k := 8) g2
      have f := fin (a >>> 8) 8 (by rw [s8, Nat.shiftRight_eq_div_pow]; omega) (by omega)
      rw [s8] at f
      simp at f
      simp (maxSteps := 10000000) (disch := first | assumption | ((try simp only [push_next, put_next, adv_next, List.length_cons, List.length_nil, List.length_map, List.length_set]); omega) | simp) [h1, h2, len8, f]
      rw [l1]
      simp
    · have g2 : ¬ 256 ≤ a.toNat := h2
      have f := fin a 0 (by omega) (by omega)
      simp at f
      simp (maxSteps := 10000000) (disch := first | assumption | ((try simp only [push_next, put_next, adv_next, List.length_cons, List.length_nil, List.length_map, List.length_set]); omega) | simp) [h1, h2, len8, f]
theorem lz32 : WC T n_math_bits_LeadingZeros32 [u32 a] h q ↔ q (.int .i64 (clz a)) h := by
  have h1 := lenN_le (n := a.toNat) (k := 32) (by have := a.isLt; omega)
  have e : IntKind.i64.wrap (32 - (lenN a.toNat : Int)) = (clz a : Int) := by
    rw [wrap_i64 (by omega) (by omega)]
    unfold clz
    omega
  rw [w_math_bits_LeadingZeros32]
  simp (maxSteps := 10000000) (disch := first | assumption | ((try simp only [push_next, put_next, adv_next, List.length_cons, List.length_nil, List.length_map, List.length_set]); omega) | simp) [GC_of (fun q => len32), e, -wrap_i64]
theorem word_clz : WC T n_word_Clz [u32 a] h q ↔ q (.int .i64 (clz a)) h := by
  rw [w_word_Clz]
  simp (maxSteps := 10000000) (disch := first | assumption | ((try simp only [push_next, put_next, adv_next, List.length_cons, List.length_nil, List.length_map, List.length_set]); omega) | simp) [GC_of (fun q => lz32)]
theorem word_clo : WC T n_word_Clo [u32 a] h q ↔ q (.int .i64 (clz (~~~ a))) h := by
  rw [w_word_Clo]
  simp (maxSteps := 10000000) (disch := first | assumption | ((try simp only [push_next, put_next, adv_next, List.length_cons, List.length_nil, List.length_map, List.length_set]); omega) | simp) [GC_of (fun q => lz32)]
end
section
attribute [local congr] ite_ctx
variable {h : Hp} {q : Value → Hp → Prop} {a b : BitVec 32} {o : IOp}
theorem ir_right0 : WC T n_ir_Right [.agg (encOp.enc o).toArray] h fun v h' => v = .bool (decide o.ok) ∧ h' = (h.push (.cells false (encOp.enc o))).push (.cells false [.int .i64 o.d, .int .i64 o.a, .int .i64 o.b]) := by
  rw [w_ir_Right]
  simp (maxSteps := 10000000) +contextual (disch := first | assumption | ((try simp only [push_next, put_next, adv_next, List.length_cons, List.length_nil, List.length_map, List.length_set]); omega) | simp) [-GG_bool, -GGI_bool, -GB_bool, GG_t, GG_f, GGI_t, GGI_f, GB_b, GB_n, GG_tn, GG_fn, encOp]
  generalize hH : (h.push (Ob.cells false [Value.int IntKind.i64 o.k, Value.int IntKind.i64 o.d, Value.int IntKind.i64 o.a, Value.int IntKind.i64 o.b, u32 o.imm])).push (Ob.cells false [Value.int IntKind.i64 o.d, Value.int IntKind.i64 o.a, Value.int IntKind.i64 o.b]) = H
  have g0 : H.get h.next = some (.cells false [Value.int IntKind.i64 o.k, Value.int IntKind.i64 o.d, Value.int IntKind.i64 o.a, Value.int IntKind.i64 o.b, u32 o.imm]) := by rw [← hH, get_push_ne (by simp), get_push_self]
  have g1 : H.get (h.next + 1) = some (.cells false [Value.int IntKind.i64 o.d, Value.int IntKind.i64 o.a, Value.int IntKind.i64 o.b]) := by
    rw [← hH]; exact get_push_self (h := h.push _)
  refine G_loop (fun n e h' => ∃ j : Nat, n = 3 - j ∧ j ≤ 3 ∧ h' = H ∧ e 1 = ptr h.next 0 ∧ e 11 = .slice (some ⟨h.next + 1, 0, none⟩) 3 3 ∧ e 12 = .int .i64 3 ∧ e 13 = .int .i64 j ∧ (0 < j → 0 ≤ o.d ∧ o.d < 40) ∧ (1 < j → 0 ≤ o.a ∧ o.a < 40) ∧ (2 < j → 0 ≤ o.b ∧ o.b < 40)) ?_ 3 _ _ ⟨0, by simp⟩
  rintro n ih e h' ⟨j, rfl, hj, rfl, e1, e11, e12, e13, i0, i1, i2⟩
  have hj' : j = 0 ∨ j = 1 ∨ j = 2 ∨ j = 3 := by omega
  rcases hj' with rfl | rfl | rfl | rfl
  · by_cases d0 : o.d < 0
    · have : ¬ o.ok := fun hh => by have := hh.1.1; omega
      simp (maxSteps := 10000000) +contextual (disch := first | assumption | ((try simp only [push_next, put_next, adv_next, List.length_cons, List.length_nil, List.length_map, List.length_set]); omega) | simp) [-GG_bool, -GGI_bool, -GB_bool, GG_t, GG_f, GGI_t, GGI_f, GB_b, GB_n, GG_tn, GG_fn, e1, e11, e12, e13, g0, g1, d0, this]
    by_cases d1 : 40 ≤ o.d
    · have : ¬ o.ok := fun hh => by have := hh.1.2; omega
      simp (maxSteps := 10000000) +contextual (disch := first | assumption | ((try simp only [push_next, put_next, adv_next, List.length_cons, List.length_nil, List.length_map, List.length_set]); omega) | simp) [-GG_bool, -GGI_bool, -GB_bool, GG_t, GG_f, GGI_t, GGI_f, GB_b, GB_n, GG_tn, GG_fn, e1, e11, e12, e13, g0, g1, d0, d1, this]
    simp (maxSteps := 10000000) +contextual (disch := first | assumption | ((try simp only [push_next, put_next, adv_next, List.length_cons, List.length_nil, List.length_map, List.length_set]); omega) | simp) [-GG_bool, -GGI_bool, -GB_bool, GG_t, GG_f, GGI_t, GGI_f, GB_b, GB_n, GG_tn, GG_fn, e1, e11, e12, e13, g0, g1, d0, d1]
    exact ih 2 (by omega) _ _ ⟨1, by simp [e1, e11, e12, e13]; omega⟩
  · by_cases d0 : o.a < 0
    · have : ¬ o.ok := fun hh => by have := hh.2.1.1; omega
      simp (maxSteps := 10000000) +contextual (disch := first | assumption | ((try simp only [push_next, put_next, adv_next, List.length_cons, List.length_nil, List.length_map, List.length_set]); omega) | simp) [-GG_bool, -GGI_bool, -GB_bool, GG_t, GG_f, GGI_t, GGI_f, GB_b, GB_n, GG_tn, GG_fn, e1, e11, e12, e13, g0, g1, d0, this]
    by_cases d1 : 40 ≤ o.a
    · have : ¬ o.ok := fun hh => by have := hh.2.1.2; omega
      simp (maxSteps := 10000000) +contextual (disch := first | assumption | ((try simp only [push_next, put_next, adv_next, List.length_cons, List.length_nil, List.length_map, List.length_set]); omega) | simp) [-GG_bool, -GGI_bool, -GB_bool, GG_t, GG_f, GGI_t, GGI_f, GB_b, GB_n, GG_tn, GG_fn, e1, e11, e12, e13, g0, g1, d0, d1, this]
    simp (maxSteps := 10000000) +contextual (disch := first | assumption | ((try simp only [push_next, put_next, adv_next, List.length_cons, List.length_nil, List.length_map, List.length_set]); omega) | simp) [-GG_bool, -GGI_bool, -GB_bool, GG_t, GG_f, GGI_t, GGI_f, GB_b, GB_n, GG_tn, GG_fn, e1, e11, e12, e13, g0, g1, d0, d1]
    exact ih 1 (by omega) _ _ ⟨2, by simp [e1, e11, e12, e13]; omega⟩
  · by_cases d0 : o.b < 0
    · have : ¬ o.ok := fun hh => by have := hh.2.2.1.1; omega
      simp (maxSteps := 10000000) +contextual (disch := first | assumption | ((try simp only [push_next, put_next, adv_next, List.length_cons, List.length_nil, List.length_map, List.length_set]); omega) | simp) [-GG_bool, -GGI_bool, -GB_bool, GG_t, GG_f, GGI_t, GGI_f, GB_b, GB_n, GG_tn, GG_fn, e1, e11, e12, e13, g0, g1, d0, this]
    by_cases d1 : 40 ≤ o.b
    · have : ¬ o.ok := fun hh => by have := hh.2.2.1.2; omega
      simp (maxSteps := 10000000) +contextual (disch := first | assumption | ((try simp only [push_next, put_next, adv_next, List.length_cons, List.length_nil, List.length_map, List.length_set]); omega) | simp) [-GG_bool, -GGI_bool, -GB_bool, GG_t, GG_f, GGI_t, GGI_f, GB_b, GB_n, GG_tn, GG_fn, e1, e11, e12, e13, g0, g1, d0, d1, this]
    simp (maxSteps := 10000000) +contextual (disch := first | assumption | ((try simp only [push_next, put_next, adv_next, List.length_cons, List.length_nil, List.length_map, List.length_set]); omega) | simp) [-GG_bool, -GGI_bool, -GB_bool, GG_t, GG_f, GGI_t, GGI_f, GB_b, GB_n, GG_tn, GG_fn, e1, e11, e12, e13, g0, g1, d0, d1]
    exact ih 0 (by omega) _ _ ⟨3, by simp [e1, e11, e12, e13]; omega⟩
  · have j0 := i0 (by omega)
    have j1 := i1 (by omega)
    have j2 := i2 (by omega)
    by_cases k0 : 0 ≤ o.k
    · by_cases k1 : o.k ≤ 22 <;> simp (maxSteps := 10000000) +contextual (disch := first | assumption | ((try simp only [push_next, put_next, adv_next, List.length_cons, List.length_nil, List.length_map, List.length_set]); omega) | simp) [-GG_bool, -GGI_bool, -GB_bool, GG_t, GG_f, GGI_t, GGI_f, GB_b, GB_n, GG_tn, GG_fn, e1, e11, e12, e13, g0, g1, k0, k1, IOp.ok, j0, j1, j2]
    · simp (maxSteps := 10000000) +contextual (disch := first | assumption | ((try simp only [push_next, put_next, adv_next, List.length_cons, List.length_nil, List.length_map, List.length_set]); omega) | simp) [-GG_bool, -GGI_bool, -GB_bool, GG_t, GG_f, GGI_t, GGI_f, GB_b, GB_n, GG_tn, GG_fn, e1, e11, e12, e13, g0, g1, k0, IOp.ok, j0, j1, j2]
theorem ir_right : WC T n_ir_Right [.agg (encOp.enc o).toArray] h q ↔ q (.bool (decide o.ok)) ((h.push (.cells false (encOp.enc o))).push (.cells false [.int .i64 o.d, .int .i64 o.a, .int .i64 o.b])) := WC_iff ir_right0 q
theorem ref_right : WC T n_pianolaref18_Right [.agg (encOp.enc o).toArray] h q ↔ q (.bool (decide o.ok)) (h.push (.cells false (encOp.enc o))) := by
  rw [w_pianolaref18_Right]
  simp (maxSteps := 10000000) +contextual (disch := first | assumption | ((try simp only [push_next, put_next, adv_next, List.length_cons, List.length_nil, List.length_map, List.length_set]); omega) | simp) [-GG_bool, -GGI_bool, -GB_bool, GG_t, GG_f, GGI_t, GGI_f, GB_b, GB_n, GG_tn, GG_fn, encOp]
  by_cases k0 : 0 ≤ o.k <;> by_cases k1 : o.k ≤ 22 <;> by_cases d0 : 0 ≤ o.d <;> by_cases d1 : o.d < 40 <;> by_cases a0 : 0 ≤ o.a <;> by_cases a1 : o.a < 40 <;> by_cases b0 : 0 ≤ o.b <;> simp [IOp.ok, *]
theorem and_31n (n : Nat) : n &&& 31 = n % 32 := Nat.and_two_pow_sub_one_eq_mod n 5
theorem mod_32n (n : Nat) : (((n % 32 : Nat) : Int) % 32).toNat = n % 32 := by omega
theorem of_kinds (k : Int) : k = 1 ∨ k = 3 ∨ k = 4 ∨ k = 5 ∨ k = 6 ∨ k = 7 ∨ k = 8 ∨ k = 9 ∨ k = 10 ∨ k = 11 ∨ k = 12 ∨ k = 13 ∨ k = 14 ∨ k = 15 ∨ k = 16 ∨ (k ≠ 1 ∧ k ≠ 3 ∧ k ≠ 4 ∧ k ≠ 5 ∧ k ≠ 6 ∧ k ≠ 7 ∧ k ≠ 8 ∧ k ≠ 9 ∧ k ≠ 10 ∧ k ≠ 11 ∧ k ≠ 12 ∧ k ≠ 13 ∧ k ≠ 14 ∧ k ≠ 15 ∧ k ≠ 16) := by omega
theorem ir_of : WC T n_ir_of [.agg (encOp.enc o).toArray, u32 a, u32 b] h q ↔ q (u32 (iof o a b)) (h.push (.cells false (encOp.enc o))) := by
  rw [w_ir_of]
  rcases of_kinds o.k with hk | hk | hk | hk | hk | hk | hk | hk | hk | hk | hk | hk | hk | hk | hk | hk <;>
  simp (maxSteps := 10000000) (disch := first | assumption | ((try simp only [push_next, put_next, adv_next, List.length_cons, List.length_nil, List.length_map, List.length_set]); omega) | simp) [encOp, hk, iof, GC_of (fun q => word_sar), GC_of (fun q => word_less), GC_of (fun q => ir_one), GC_of (fun q => word_clz), GC_of (fun q => word_clo), and_31n, mod_32n, -Int.natCast_emod]
end
end Go.Proofs.Ytjobkhnanbkcjaa.Cd

/- Small operations done one by one. -/
set_option maxRecDepth 1000000
set_option maxHeartbeats 4000000
set_option linter.unusedSimpArgs false
set_option linter.unusedVariables false
namespace Go.Proofs.Ytjobkhnanbkcjaa.Cd
open Go Go.Dx
section
variable {h : Hp} {q : Value → Hp → Prop} {a b : BitVec 32} {o : IOp} {R : Regs} {c : Nat}
theorem upd_one {g h : Hp} {c : Nat} {C : Option Ob} (hg : ∀ b, b < h.next → b ≠ c → g.get b = h.get b) (hn : h.next ≤ g.next) : Upd h (g.put c C) [c] [c] := ⟨by simp; exact hn, fun b hb hbc => by
    simp at hbc
    rw [get_put_ne hbc]; exact hg b hb hbc, fun b hb => .inl hb⟩
theorem ir_doK {P : List Value} {k : Nat} (hk : P.length = k) (ho : o.ok) (hR : R.length = 40) (hg0 : h.get c = some (.cells false (P ++ R.map u32))) (hq : ∀ h', h'.get c = some (.cells false (P ++ (ido R o).map u32)) → Upd h h' [c] [c] → q (.tuple #[]) h') :
    WC T n_ir_Regs_do [ptr c k, .agg (encOp.enc o).toArray] h q := by
  obtain ⟨⟨d0, d1⟩, ⟨a0, a1⟩, ⟨b0, b1⟩, k0, k1⟩ := id ho
  obtain ⟨X, hXe⟩ : ∃ X, X = P ++ R.map u32 := ⟨_, rfl⟩
  have hX : X.length = k + 40 := by rw [hXe]; simp [hk, hR]
  have hg : h.get c = some (.cells false X) := by rw [hXe]; exact hg0
  have hat : ∀ i : Int, 0 ≤ i → i < 40 → X[k + i.toNat]? = some (u32 (rg R i)) := fun i h0 h1 => by
    rw [hXe, List.getElem?_append_right (by omega), ← hk, Nat.add_sub_cancel_left, List.getElem?_map, rg_at h0 (by omega)]; rfl
  have hset : ∀ (n : Nat) (v : BitVec 32) (Q : List Value), (P ++ Q).set (k + n) (u32 v) = P ++ Q.set n (u32 v) := fun n v Q => by
    rw [List.set_append_right _ _ (by omega), ← hk, Nat.add_sub_cancel_left]
  have hlt := lt_of_get hg
  have hat2 : ∀ i : Int, 0 ≤ i → i < 40 → ∀ hh : k + i.toNat < X.length, X[k + i.toNat]'hh = u32 (rg R i) := fun i h0 h1 hh => by
    have := hat i h0 h1
    rw [List.getElem?_eq_getElem hh] at this
    simpa using this
  have ra := hat2 o.a a0 a1
  have rb := hat2 o.b b0 b1
  have o1 := fun (l : List Value) n v => over_set (l := l) (i := n) (v := v)
  have dl : o.d ≤ 39 := by omega
  have dl' : o.d.toNat < 40 := by omega
  rw [w_ir_Regs_do]
  have fact : ∀ (g : Hp) (C : List Value), (∀ b, b < h.next → b ≠ c → g.get b = h.get b) → h.next ≤ g.next → C = P ++ (ido R o).map u32 → q (.tuple #[]) (g.put c (some (.cells false C))) := fun g C h1 h2 h3 => by
    subst h3
    exact hq _ (get_put_self (by omega)) (upd_one h1 h2)
  have cases4 : (o.k = 17 ∨ o.k = 18) ∨ (o.k = 19 ∨ o.k = 20) ∨ ((o.k ≠ 17 ∧ o.k ≠ 18 ∧ o.k ≠ 19 ∧ o.k ≠ 20) ∧ (o.k = 0 ∨ o.d = 0 ∨ (o.k = 21 ∧ rg R o.b ≠ 0#32) ∨ (o.k = 22 ∧ rg R o.b = 0#32))) ∨ ((o.k ≠ 17 ∧ o.k ≠ 18 ∧ o.k ≠ 19 ∧ o.k ≠ 20) ∧ ¬ (o.k = 0 ∨ o.d = 0 ∨ (o.k = 21 ∧ rg R o.b ≠ 0#32) ∨ (o.k = 22 ∧ rg R o.b = 0#32))) := by
    by_cases h1 : o.k = 17 ∨ o.k = 18
    · exact .inl h1
    by_cases h2 : o.k = 19 ∨ o.k = 20
    · exact .inr (.inl h2)
    by_cases h3 : o.k = 0 ∨ o.d = 0 ∨ (o.k = 21 ∧ rg R o.b ≠ 0#32) ∨ (o.k = 22 ∧ rg R o.b = 0#32)
    · exact .inr (.inr (.inl ⟨by omega, h3⟩))
    · exact .inr (.inr (.inr ⟨by omega, h3⟩))
  rcases cases4 with hk' | hk' | ⟨hk', hs⟩ | ⟨hk', hs⟩
  · rcases hk' with hk' | hk' <;>
    · simp (maxSteps := 10000000) (disch := first | assumption | ((try simp only [push_next, put_next, adv_next, List.length_cons, List.length_nil, List.length_map, List.length_set]); omega) | simp) [encOp, hk', hg, ra, rb, hR, hX, -over, o1, GC_of (fun q => word_mul)]
      refine fact _ _ ?_ ?_ ?_
      · intro b hb hbc; rw [get_push_ne (by omega)]
      · simp
      · rw [hXe]; simp [ido, hk', hset]
  · rcases hk' with hk' | hk' <;>
    · simp (maxSteps := 10000000) (disch := first | assumption | ((try simp only [push_next, put_next, adv_next, List.length_cons, List.length_nil, List.length_map, List.length_set]); omega) | simp) [encOp, hk', hg, ra, rb, hR, hX, -over, o1, GC_of (fun q => word_div)]
      refine fact _ _ ?_ ?_ ?_
      · intro b hb hbc; rw [get_push_ne (by omega)]
      · simp
      · rw [hXe]; simp [ido, hk', hset]
  · have hd : ido R o = R := by unfold ido; rw [if_neg (by omega), if_neg (by omega), if_pos hs]
    have fin' : q (.tuple #[]) (h.push (.cells false (encOp.enc o))) := hq _ (by rw [get_push_ne (by omega), hg0, hd]) ⟨by simp, fun b hb _ => get_push_ne (by omega), fun b hb => .inl hb⟩
    simp only [encOp] at fin'
    by_cases z0 : o.k = 0
    · simp (maxSteps := 10000000) (disch := first | assumption | ((try simp only [push_next, put_next, adv_next, List.length_cons, List.length_nil, List.length_map, List.length_set]); omega) | simp) [encOp, z0, hg, ra, rb, hR, hX, -over]
      simpa [z0] using fin'
    by_cases z1 : o.d = 0
    · simp (maxSteps := 10000000) (disch := first | assumption | ((try simp only [push_next, put_next, adv_next, List.length_cons, List.length_nil, List.length_map, List.length_set]); omega) | simp) [encOp, z0, z1, hk', hg, ra, rb, hR, hX, -over]
      simpa [z1] using fin'
    rcases hs with hs | hs | ⟨z2, z3⟩ | ⟨z2, z3⟩
    · exact absurd hs z0
    · exact absurd hs z1
    · simp (maxSteps := 10000000) (disch := first | assumption | ((try simp only [push_next, put_next, adv_next, List.length_cons, List.length_nil, List.length_map, List.length_set]); omega) | simp) [encOp, z1, z2, z3, hg, ra, rb, hR, hX, -over]
      simpa [z2] using fin'
    · simp (maxSteps := 10000000) (disch := first | assumption | ((try simp only [push_next, put_next, adv_next, List.length_cons, List.length_nil, List.length_map, List.length_set]); omega) | simp) [encOp, z1, z2, z3, hg, ra, rb, hR, hX, -over]
      simpa [z2] using fin'
  · have hd : ido R o = R.set o.d.toNat (iof o (rg R o.a) (rg R o.b)) := by unfold ido; rw [if_neg (by omega), if_neg (by omega), if_neg hs]
    have z0 : o.k ≠ 0 := fun hh => hs (.inl hh)
    have z1 : o.d ≠ 0 := fun hh => hs (.inr (.inl hh))
    have done : ∀ (g : Hp) (C : List Value), g = ((h.push (.cells false (encOp.enc o))).push (.cells false (encOp.enc o))) → C = P ++ (R.set o.d.toNat (iof o (rg R o.a) (rg R o.b))).map u32 → q (.tuple #[]) (g.put c (some (.cells false C))) := fun g C e1 e2 => by
      subst e1
      exact fact _ _ (fun b hb hbc => by rw [get_push_ne (by simp; omega), get_push_ne (by omega)]) (by simp; omega) (by rw [e2, hd])
    have irof := fun (h : Hp) (q : Value → Hp → Prop) (a b : BitVec 32) => ir_of (h := h) (q := q) (a := a) (b := b) (o := o)
    simp only [encOp] at irof
    by_cases z2 : o.k = 21 ∨ o.k = 22
    · by_cases z3 : rg R o.b = 0#32
      · have z4 : o.k = 21 := by
          rcases z2 with z2 | z2
          · exact z2
          · exact absurd (.inr (.inr (.inr ⟨z2, z3⟩))) hs
        simp only [z4] at irof done
        simp (maxSteps := 10000000) (disch := first | assumption | ((try simp only [push_next, put_next, adv_next, List.length_cons, List.length_nil, List.length_map, List.length_set]); omega) | simp) [encOp, z4, z1, z3, hg, ra, rb, hR, hX, dl, Hp.rdn, -over, o1, GCI_of (fun q => irof _ q _ _), GC_of (fun q => irof _ q _ _)]
        refine done _ _ ?_ ?_
        · simp [encOp, z4]
        · rw [hXe]; simp [z3, hset]
      · have z4 : o.k = 22 := by
          rcases z2 with z2 | z2
          · exact absurd (.inr (.inr (.inl ⟨z2, z3⟩))) hs
          · exact z2
        simp only [z4] at irof done
        simp (maxSteps := 10000000) (disch := first | assumption | ((try simp only [push_next, put_next, adv_next, List.length_cons, List.length_nil, List.length_map, List.length_set]); omega) | simp) [encOp, z4, z1, z3, hg, ra, rb, hR, hX, dl, Hp.rdn, -over, o1, GCI_of (fun q => irof _ q _ _), GC_of (fun q => irof _ q _ _)]
        refine done _ _ ?_ ?_
        · simp [encOp, z4]
        · rw [hXe]; simp [hset]
    · have z3 : o.k ≠ 21 ∧ o.k ≠ 22 := by omega
      simp (maxSteps := 10000000) (disch := first | assumption | ((try simp only [push_next, put_next, adv_next, List.length_cons, List.length_nil, List.length_map, List.length_set]); omega) | simp) [encOp, hk', z0, z1, z3, hg, ra, rb, hR, hX, dl, Hp.rdn, -over, o1, GCI_of (fun q => irof _ q _ _), GC_of (fun q => irof _ q _ _)]
      refine done _ _ ?_ ?_
      · simp [encOp]
      · rw [hXe]; simp [hset]
theorem ir_do (ho : o.ok) (hR : R.length = 40) (hg : h.get c = some (.cells false (R.map u32))) (hq : ∀ h', h'.get c = some (.cells false ((ido R o).map u32)) → Upd h h' [c] [c] → q (.tuple #[]) h') :
    WC T n_ir_Regs_do [ptr c 0, .agg (encOp.enc o).toArray] h q := ir_doK (P := []) (k := 0) rfl ho hR (by simpa using hg) fun h' g u => hq h' (by simpa using g) u
end
end Go.Proofs.Ytjobkhnanbkcjaa.Cd

/- Is there one in a row? -/
set_option maxRecDepth 1000000
set_option maxHeartbeats 4000000
set_option linter.unusedSimpArgs false
set_option linter.unusedVariables false
namespace Go.Proofs.Ytjobkhnanbkcjaa.Cd
open Go Go.Dx
section
variable {h : Hp} {a : Option Addr} {c fc : Nat} {caps : Array Value} {xs : List IOp} {p : IOp → Bool} {q : Value → Hp → Prop}
theorem indexF_op (hs : Sees encOp h a xs) (hb : xs.length < 2 ^ 63) (hc : ∀ x ∈ xs, ∀ h1, Kp h h1 → WC T fc ([.agg (encOp.enc x).toArray] ++ caps.toList) h1 fun v h2 => v = .bool (p x) ∧ Kp h1 h2) :
    WC T n_slices_IndexFunc_ir_Op_ir_Op [.slice a xs.length c, .func (.func fc) #[] caps] h fun v h' => v = .int .i64 (fidx p xs 0) ∧ Kp h h' := by
  rw [w_slices_IndexFunc_ir_Op_ir_Op]
  simp (maxSteps := 10000000) (disch := first | assumption | ((try simp only [push_next, put_next, adv_next, List.length_cons, List.length_nil, List.length_map, List.length_set]); omega) | simp)
  refine G_loop (fun n e h' => ∃ us vs, n = vs.length ∧ xs = us ++ vs ∧ (∀ x ∈ us, p x = false) ∧ Kp h h' ∧ e 0 = .slice a xs.length c ∧ e 1 = .func (.func fc) #[] caps ∧ e 7 = .int .i64 xs.length ∧ e 8 = .int .i64 us.length) ?_ xs.length _ _ ⟨[], xs, rfl, rfl, by simp, .refl _, by simp, by simp, by simp, by simp⟩
  rintro n ih e h' ⟨us, vs, rfl, hx, hu, K, e0, e1, e7, e8⟩
  cases vs with
  | nil =>
    have hl : xs.length = us.length := by rw [hx]; simp
    have hf : fidx p xs 0 = -1 := by rw [hx, fidx_skip p us [] 0 hu]; rfl
    simp (maxSteps := 10000000) (disch := first | assumption | ((try simp only [push_next, put_next, adv_next, List.length_cons, List.length_nil, List.length_map, List.length_set]); omega) | simp) [e0, e1, e7, e8, hl]
    exact ⟨hf.symm, K⟩
  | cons x vs =>
    have hl : us.length < xs.length := by rw [hx]; simp
    have hl' : (us.length : Int) < xs.length := by omega
    obtain ⟨A, rfl, hr⟩ := Sees.mid (A := us) (x := x) (B := vs) (by rw [← hx]; exact hs)
    have hr' : h'.rdn A.block (A.off + us.length * 5) 5 = some (encOp.enc x) := rdn_kp hr (K.get _ (lt_of_rdn hr))
    
    simp (maxSteps := 10000000) (disch := first | assumption | ((try simp only [push_next, put_next, adv_next, List.length_cons, List.length_nil, List.length_map, List.length_set]); omega) | simp) [e0, e1, e7, e8, hl', hr']
    refine GC_intro (hc x (by rw [hx]; simp) h' K) fun v h2 ⟨hv, K2⟩ => ?_
    subst hv
    by_cases hp : p x = true
    · have hf : fidx p xs 0 = us.length := by rw [hx, fidx_skip p us _ 0 hu]; simp [fidx, hp]
      simp (maxSteps := 10000000) (disch := first | assumption | ((try simp only [push_next, put_next, adv_next, List.length_cons, List.length_nil, List.length_map, List.length_set]); omega) | simp) [hp]
      exact ⟨hf.symm, K.trans K2⟩
    · simp (maxSteps := 10000000) (disch := first | assumption | ((try simp only [push_next, put_next, adv_next, List.length_cons, List.length_nil, List.length_map, List.length_set]); omega) | simp) [hp, e8]
      refine ih vs.length (by simp) _ _ ⟨us ++ [x], vs, rfl, by rw [hx]; simp, fun y hy => ?_, K.trans K2, by simp [e0], by simp [e1], by simp [e7], by simp⟩
      rcases List.mem_append.1 hy with h1 | h1
      · exact hu y h1
      · simp at h1; subst h1; simpa using hp
theorem contains_op (hs : Sees encOp h a xs) (hb : xs.length < 2 ^ 63) (hc : ∀ x ∈ xs, ∀ h1, Kp h h1 → WC T fc ([.agg (encOp.enc x).toArray] ++ caps.toList) h1 fun v h2 => v = .bool (p x) ∧ Kp h1 h2) :
    WC T n_slices_ContainsFunc_ir_Op_ir_Op [.slice a xs.length c, .func (.func fc) #[] caps] h fun v h' => v = .bool (xs.any p) ∧ Kp h h' := by
  rw [w_slices_ContainsFunc_ir_Op_ir_Op]
  simp (maxSteps := 10000000) (disch := first | assumption | ((try simp only [push_next, put_next, adv_next, List.length_cons, List.length_nil, List.length_map, List.length_set]); omega) | simp)
  refine GC_intro (indexF_op hs hb hc) fun v h2 ⟨hv, K2⟩ => ?_
  subst hv
  simp (maxSteps := 10000000) (disch := first | assumption | ((try simp only [push_next, put_next, adv_next, List.length_cons, List.length_nil, List.length_map, List.length_set]); omega) | simp) [fidx_any]
  exact K2
end
end Go.Proofs.Ytjobkhnanbkcjaa.Cd

/- Is there one in a row? -/
set_option maxRecDepth 1000000
set_option maxHeartbeats 4000000
set_option linter.unusedSimpArgs false
set_option linter.unusedVariables false
namespace Go.Proofs.Ytjobkhnanbkcjaa.Cd
open Go Go.Dx
section
variable {h : Hp} {a : Option Addr} {c fc : Nat} {caps : Array Value} {xs : List Int} {p : Int → Bool} {q : Value → Hp → Prop}
theorem indexF_int (hs : Sees encZ h a xs) (hb : xs.length < 2 ^ 63) (hc : ∀ x ∈ xs, ∀ h1, Kp h h1 → WC T fc ([.int .i64 x] ++ caps.toList) h1 fun v h2 => v = .bool (p x) ∧ Kp h1 h2) :
    WC T n_slices_IndexFunc_int_int [.slice a xs.length c, .func (.func fc) #[] caps] h fun v h' => v = .int .i64 (fidx p xs 0) ∧ Kp h h' := by
  rw [w_slices_IndexFunc_int_int]
  simp (maxSteps := 10000000) (disch := first | assumption | ((try simp only [push_next, put_next, adv_next, List.length_cons, List.length_nil, List.length_map, List.length_set]); omega) | simp)
  refine G_loop (fun n e h' => ∃ us vs, n = vs.length ∧ xs = us ++ vs ∧ (∀ x ∈ us, p x = false) ∧ Kp h h' ∧ e 0 = .slice a xs.length c ∧ e 1 = .func (.func fc) #[] caps ∧ e 7 = .int .i64 xs.length ∧ e 8 = .int .i64 us.length) ?_ xs.length _ _ ⟨[], xs, rfl, rfl, by simp, .refl _, by simp, by simp, by simp, by simp⟩
  rintro n ih e h' ⟨us, vs, rfl, hx, hu, K, e0, e1, e7, e8⟩
  cases vs with
  | nil =>
    have hl : xs.length = us.length := by rw [hx]; simp
    have hf : fidx p xs 0 = -1 := by rw [hx, fidx_skip p us [] 0 hu]; rfl
    simp (maxSteps := 10000000) (disch := first | assumption | ((try simp only [push_next, put_next, adv_next, List.length_cons, List.length_nil, List.length_map, List.length_set]); omega) | simp) [e0, e1, e7, e8, hl]
    exact ⟨hf.symm, K⟩
  | cons x vs =>
    have hl : us.length < xs.length := by rw [hx]; simp
    have hl' : (us.length : Int) < xs.length := by omega
    obtain ⟨A, rfl, hr⟩ := Sees.mid (A := us) (x := x) (B := vs) (by rw [← hx]; exact hs)
    have hr' : h'.rdn A.block (A.off + us.length * 1) 1 = some (encZ.enc x) := rdn_kp hr (K.get _ (lt_of_rdn hr))
    obtain ⟨ro, C, hg, hC⟩ := rdn_cells hr'
    have hC0 := hC 0 (by decide)
    simp [encZ] at hC0
    simp (maxSteps := 10000000) (disch := first | assumption | ((try simp only [push_next, put_next, adv_next, List.length_cons, List.length_nil, List.length_map, List.length_set]); omega) | simp) [e0, e1, e7, e8, hl', hg, hC0]
    refine GC_intro (hc x (by rw [hx]; simp) h' K) fun v h2 ⟨hv, K2⟩ => ?_
    subst hv
    by_cases hp : p x = true
    · have hf : fidx p xs 0 = us.length := by rw [hx, fidx_skip p us _ 0 hu]; simp [fidx, hp]
      simp (maxSteps := 10000000) (disch := first | assumption | ((try simp only [push_next, put_next, adv_next, List.length_cons, List.length_nil, List.length_map, List.length_set]); omega) | simp) [hp]
      exact ⟨hf.symm, K.trans K2⟩
    · simp (maxSteps := 10000000) (disch := first | assumption | ((try simp only [push_next, put_next, adv_next, List.length_cons, List.length_nil, List.length_map, List.length_set]); omega) | simp) [hp, e8]
      refine ih vs.length (by simp) _ _ ⟨us ++ [x], vs, rfl, by rw [hx]; simp, fun y hy => ?_, K.trans K2, by simp [e0], by simp [e1], by simp [e7], by simp⟩
      rcases List.mem_append.1 hy with h1 | h1
      · exact hu y h1
      · simp at h1; subst h1; simpa using hp
theorem contains_int (hs : Sees encZ h a xs) (hb : xs.length < 2 ^ 63) (hc : ∀ x ∈ xs, ∀ h1, Kp h h1 → WC T fc ([.int .i64 x] ++ caps.toList) h1 fun v h2 => v = .bool (p x) ∧ Kp h1 h2) :
    WC T n_slices_ContainsFunc_int_int [.slice a xs.length c, .func (.func fc) #[] caps] h fun v h' => v = .bool (xs.any p) ∧ Kp h h' := by
  rw [w_slices_ContainsFunc_int_int]
  simp (maxSteps := 10000000) (disch := first | assumption | ((try simp only [push_next, put_next, adv_next, List.length_cons, List.length_nil, List.length_map, List.length_set]); omega) | simp)
  refine GC_intro (indexF_int hs hb hc) fun v h2 ⟨hv, K2⟩ => ?_
  subst hv
  simp (maxSteps := 10000000) (disch := first | assumption | ((try simp only [push_next, put_next, adv_next, List.length_cons, List.length_nil, List.length_map, List.length_set]); omega) | simp) [fidx_any]
  exact K2
end
end Go.Proofs.Ytjobkhnanbkcjaa.Cd

/- Rows of small operations: what the program does with them. -/
set_option maxRecDepth 1000000
set_option maxHeartbeats 4000000
set_option linter.unusedSimpArgs false
set_option linter.unusedVariables false
namespace Go.Proofs.Ytjobkhnanbkcjaa.Cd
open Go Go.Dx
section
variable {h : Hp} {q : Value → Hp → Prop} {o : IOp} {R : Regs} {c cp : Nat} {a : Option Addr} {L : List IOp}
theorem run_1 : WC T n_ir_Run_1 [.agg (encOp.enc o).toArray] h fun v h' => v = .bool (!decide o.ok) ∧ Kp h h' := by
  rw [w_ir_Run_1]
  simp (maxSteps := 10000000) (disch := first | assumption | ((try simp only [push_next, put_next, adv_next, List.length_cons, List.length_nil, List.length_map, List.length_set]); omega) | simp) [encOp, Hp.rdn]
  refine GC_intro ((ir_right (o := o) (q := fun v h' => v = .bool (decide o.ok) ∧ Kp h h')).2 ⟨rfl, ?_⟩) fun v h2 ⟨hv, K⟩ => ?_
  · exact (((Kp.refl h).push _).push _).push _
  · subst hv
    simp (maxSteps := 10000000) (disch := first | assumption | ((try simp only [push_next, put_next, adv_next, List.length_cons, List.length_nil, List.length_map, List.length_set]); omega) | simp)
    exact K
theorem notok_any : (L.any fun o => !decide o.ok) = !decide (oks L) := by
  by_cases h : oks L
  · simp only [h, decide_true, Bool.not_true]
    rw [Bool.eq_false_iff]
    intro h1
    obtain ⟨o, h2, h3⟩ := List.any_eq_true.1 h1
    simp [h o h2] at h3
  · simp only [h, decide_false, Bool.not_false]
    apply Classical.byContradiction
    intro h1
    apply h
    intro o ho
    apply Classical.byContradiction
    intro h2
    exact h1 (List.any_eq_true.2 ⟨o, ho, by simp [h2]⟩)
theorem ir_contains (hs : Sees encOp h a L) (hb : L.length < 2 ^ 63) : WC T n_slices_ContainsFunc_ir_Op_ir_Op [.slice a L.length cp, .func (.func n_ir_Run_1) #[] #[]] h fun v h' => v = .bool (!decide (oks L)) ∧ Kp h h' := by
  have := contains_op (c := cp) (fc := n_ir_Run_1) (caps := #[]) (p := fun o => !decide o.ok) hs hb fun x _ h1 _ => run_1
  rw [notok_any] at this
  exact this
theorem ir_runK {P : List Value} {k : Nat} (hk : P.length = k) (hR : R.length = 40) (hg : h.get c = some (.cells false (P ++ R.map u32))) (hs : Sees encOp h a L) (hac : ∀ A, a = some A → A.block ≠ c) (hb : L.length < 2 ^ 63)
    (hq : ∀ h', h'.get c = some (.cells false (P ++ (if oks L then irun (R.set 0 0#32) L else R).map u32)) → Upd h h' [c] [c] → q (.bool (decide (oks L))) h') : WC T n_ir_Run [ptr c k, .slice a L.length cp] h q := by
  have hlt := lt_of_get hg
  rw [w_ir_Run]
  simp (maxSteps := 10000000) (disch := first | assumption | ((try simp only [push_next, put_next, adv_next, List.length_cons, List.length_nil, List.length_map, List.length_set]); omega) | simp)
  refine GC_intro (ir_contains hs hb) fun v h1 ⟨hv, K1⟩ => ?_
  subst hv
  have hg1 : h1.get c = some (.cells false (P ++ R.map u32)) := by rw [K1.get c hlt, hg]
  have hlt1 := lt_of_get hg1
  by_cases hok : oks L
  case neg =>
    simp (maxSteps := 10000000) (disch := first | assumption | ((try simp only [push_next, put_next, adv_next, List.length_cons, List.length_nil, List.length_map, List.length_set]); omega) | simp) [hok]
    have := hq h1 (by rw [if_neg hok, hg1]) (K1.upd _)
    simpa [hok] using this
  rw [if_pos hok] at hq
  simp only [hok, decide_true] at hq ⊢
  have o1 := fun (l : List Value) n v => over_set (l := l) (i := n) (v := v)
  simp (maxSteps := 10000000) (disch := first | assumption | ((try simp only [push_next, put_next, adv_next, List.length_cons, List.length_nil, List.length_map, List.length_set]); omega) | simp) [hg1, -over, o1, hR, hk]
  have U0 : Upd h (h1.put c (some (.cells false (P ++ (R.map u32).set 0 (u32 0#32))))) [c] [c] := (K1.upd _).put1
  refine G_loop (fun n e h' => ∃ us vs, n = vs.length ∧ L = us ++ vs ∧ Upd h h' [c] [c] ∧ h'.get c = some (.cells false (P ++ (irun (R.set 0 0#32) us).map u32)) ∧ e 0 = ptr c k ∧ e 16 = .slice a L.length cp ∧ e 17 = .int .i64 L.length ∧ e 18 = .int .i64 us.length) ?_ L.length _ _ ⟨[], L, rfl, rfl, U0, ?_, by simp, by simp, by simp, by simp⟩
  case refine_2 => rw [get_put_self hlt1]; simp
  rintro n ih e h' ⟨us, vs, rfl, hx, U, hgc, e0, e16, e17, e18⟩
  cases vs with
  | nil =>
    have hl : L.length = us.length := by rw [hx]; simp
    have hL : L = us := by rw [hx]; simp
    simp (maxSteps := 10000000) (disch := first | assumption | ((try simp only [push_next, put_next, adv_next, List.length_cons, List.length_nil, List.length_map, List.length_set]); omega) | simp) [e0, e16, e17, e18, hl]
    refine hq _ ?_ U
    rw [hgc, hL]
  | cons o vs =>
    have hl : us.length < L.length := by rw [hx]; simp
    have hl' : (us.length : Int) < L.length := by omega
    obtain ⟨A, rfl, hr⟩ := Sees.mid (A := us) (x := o) (B := vs) (by rw [← hx]; exact hs)
    have hr' : h'.rdn A.block (A.off + us.length * 5) 5 = some [.int .i64 o.k, .int .i64 o.d, .int .i64 o.a, .int .i64 o.b, u32 o.imm] := rdn_kp hr (U.get _ (lt_of_rdn hr) (by simpa using hac A rfl))
    simp (maxSteps := 10000000) (disch := first | assumption | ((try simp only [push_next, put_next, adv_next, List.length_cons, List.length_nil, List.length_map, List.length_set]); omega) | simp) [e0, e16, e17, e18, hl', hr']
    generalize hh1 : h'.push (Ob.cells false [.int .i64 o.k, .int .i64 o.d, .int .i64 o.a, .int .i64 o.b, u32 o.imm]) = h1
    have hltc := lt_of_get hgc
    have y0 : h1.get h'.next = some (.cells false [.int .i64 o.k, .int .i64 o.d, .int .i64 o.a, .int .i64 o.b, u32 o.imm]) := by
      rw [← hh1, get_push_self]
    have K2 : Kp h' h1 := by
      rw [← hh1]
      exact (Kp.refl h').push _
    have hgc1 : h1.get c = some (.cells false (P ++ (irun (R.set 0 0#32) us).map u32)) := by rw [K2.get c hltc, hgc]
    simp (maxSteps := 10000000) (disch := first | assumption | ((try simp only [push_next, put_next, adv_next, List.length_cons, List.length_nil, List.length_map, List.length_set]); omega) | simp) [y0, Hp.rdn]
    refine GC_intro (ir_doK (o := o) (P := P) (k := k) (q := fun v h2 => h2.get c = some (.cells false (P ++ (ido (irun (R.set 0 0#32) us) o).map u32)) ∧ Upd h1 h2 [c] [c]) hk (hok o (by rw [hx]; simp)) (by simp [hR]) hgc1 (fun h2 g2 u2 => ⟨g2, u2⟩)) fun v h2 ⟨g2, u2⟩ => ?_
    simp (maxSteps := 10000000) (disch := first | assumption | ((try simp only [push_next, put_next, adv_next, List.length_cons, List.length_nil, List.length_map, List.length_set]); omega) | simp) [e18]
    refine ih vs.length (by simp) _ _ ⟨us ++ [o], vs, rfl, by rw [hx]; simp, (U.one K2).trans u2, ?_, by simp [e0], by simp [e16], by simp [e17], by simp⟩
    rw [g2, irun_append]
    rfl
theorem ir_run (hR : R.length = 40) (hg : h.get c = some (.cells false (R.map u32))) (hs : Sees encOp h a L) (hac : ∀ A, a = some A → A.block ≠ c) (hb : L.length < 2 ^ 63)
    (hq : ∀ h', h'.get c = some (.cells false ((if oks L then irun (R.set 0 0#32) L else R).map u32)) → Upd h h' [c] [c] → q (.bool (decide (oks L))) h') : WC T n_ir_Run [ptr c 0, .slice a L.length cp] h q :=
  ir_runK (P := []) (k := 0) rfl hR (by simpa using hg) hs hac hb fun h' g u => hq h' (by simpa using g) u
end
end Go.Proofs.Ytjobkhnanbkcjaa.Cd

/- Few numbers sorted, each once. -/
set_option maxRecDepth 1000000
set_option maxHeartbeats 8000000
set_option linter.unusedSimpArgs false
set_option linter.unusedVariables false
namespace Go.Proofs.Ytjobkhnanbkcjaa.Cd
open Go Go.Dx
section
variable {h : Hp} {q : Value → Hp → Prop} {b c : Nat} {x y z : Int}
theorem nan_int : WC T n_cmp_isNaN_int [.int .i64 x] h q ↔ q (.bool false) h := by
  rw [w_cmp_isNaN_int]
  simp (maxSteps := 10000000) (disch := first | assumption | ((try simp only [push_next, put_next, adv_next, List.length_cons, List.length_nil, List.length_map, List.length_set]); omega) | simp)
theorem less_int : WC T n_cmp_Less_int [.int .i64 x, .int .i64 y] h q ↔ q (.bool (decide (x < y))) h := by
  rw [w_cmp_Less_int]
  simp (maxSteps := 10000000) (disch := first | assumption | ((try simp only [push_next, put_next, adv_next, List.length_cons, List.length_nil, List.length_map, List.length_set]); omega) | simp) [GC_of (fun q => nan_int)]
theorem len64 {n : Nat} (hn : n < 256) : WC T n_math_bits_Len [u64 (BitVec.ofNat 64 n)] h fun v h' => h' = h ∧ ∃ k, v = .int .i64 k := by
  have l64 : WC T n_math_bits_Len64 [u64 (BitVec.ofNat 64 n)] h fun v h' => h' = h ∧ ∃ k, v = .int .i64 k := by
    have h1 : ¬ (4294967296#64 ≤ BitVec.ofNat 64 n) := by simp [BitVec.le_def]; omega
    have h2 : ¬ (65536#64 ≤ BitVec.ofNat 64 n) := by simp [BitVec.le_def]; omega
    have h3 : ¬ (256#64 ≤ BitVec.ofNat 64 n) := by simp [BitVec.le_def]; omega
    rw [w_math_bits_Len64]
    simp (maxSteps := 10000000) (disch := first | assumption | ((try simp only [push_next, put_next, adv_next, List.length_cons, List.length_nil, List.length_map, List.length_set]); omega) | simp) [h1, h2, h3, len8]
  rw [w_math_bits_Len]
  simp (maxSteps := 10000000) (disch := first | assumption | ((try simp only [push_next, put_next, adv_next, List.length_cons, List.length_nil, List.length_map, List.length_set]); omega) | simp)
  refine GC_intro l64 fun v h' ⟨hh, k, hv⟩ => ?_
  subst hh
  subst hv
  simp (maxSteps := 10000000) (disch := first | assumption | ((try simp only [push_next, put_next, adv_next, List.length_cons, List.length_nil, List.length_map, List.length_set]); omega) | simp)
theorem ins0 {a : Option Addr} {c : Nat} : WC T n_slices_insertionSortOrdered_int [.slice a 0 c, .int .i64 0, .int .i64 0] h fun v h' => h' = h := by
  rw [w_slices_insertionSortOrdered_int]
  simp (maxSteps := 10000000) (disch := first | assumption | ((try simp only [push_next, put_next, adv_next, List.length_cons, List.length_nil, List.length_map, List.length_set]); omega) | simp) [G_round]
theorem ins1 {a : Option Addr} {c : Nat} : WC T n_slices_insertionSortOrdered_int [.slice a 1 c, .int .i64 0, .int .i64 1] h fun v h' => h' = h := by
  rw [w_slices_insertionSortOrdered_int]
  simp (maxSteps := 10000000) (disch := first | assumption | ((try simp only [push_next, put_next, adv_next, List.length_cons, List.length_nil, List.length_map, List.length_set]); omega) | simp) [G_round]
def Smp (l m : List Int) : Prop := m.length = l.length ∧ m.Pairwise (· ≤ ·) ∧ ∀ c, c ∈ m ↔ c ∈ l
theorem ins2 (hg : h.get b = some (.cells false [.int .i64 x, .int .i64 y])) : WC T n_slices_insertionSortOrdered_int [.slice (some ⟨b, 0, none⟩) 2 c, .int .i64 0, .int .i64 2] h fun v h' => ∃ m, Smp [x, y] m ∧ h'.get b = some (.cells false (m.map (Value.int .i64))) ∧ Upd h h' [b] [b] := by
  have hlt := lt_of_get hg
  rw [w_slices_insertionSortOrdered_int]
  by_cases h1 : y < x
  · simp (maxSteps := 10000000) (disch := first | assumption | ((try simp only [push_next, put_next, adv_next, List.length_cons, List.length_nil, List.length_map, List.length_set]); omega) | simp) [G_round, hg, h1, GCI_of (fun q => less_int), GC_of (fun q => less_int)]
    refine ⟨[y, x], ⟨rfl, by simp; omega, by simp; omega⟩, by simp, Upd.refl.put1⟩
  · simp (maxSteps := 10000000) (disch := first | assumption | ((try simp only [push_next, put_next, adv_next, List.length_cons, List.length_nil, List.length_map, List.length_set]); omega) | simp) [G_round, hg, h1, GCI_of (fun q => less_int), GC_of (fun q => less_int)]
    refine ⟨[x, y], ⟨rfl, by simp; omega, by simp⟩, by simp, .refl⟩
theorem ins3 (hg : h.get b = some (.cells false [.int .i64 x, .int .i64 y, .int .i64 z])) : WC T n_slices_insertionSortOrdered_int [.slice (some ⟨b, 0, none⟩) 3 c, .int .i64 0, .int .i64 3] h fun v h' => ∃ m, Smp [x, y, z] m ∧ h'.get b = some (.cells false (m.map (Value.int .i64))) ∧ Upd h h' [b] [b] := by
  have hlt := lt_of_get hg
  rw [w_slices_insertionSortOrdered_int]
  by_cases h1 : y < x
  · by_cases h2 : z < x
    · by_cases h3 : z < y
      · simp (maxSteps := 10000000) (disch := first | assumption | ((try simp only [push_next, put_next, adv_next, List.length_cons, List.length_nil, List.length_map, List.length_set]); omega) | simp) [G_round, hg, h1, h2, h3, GCI_of (fun q => less_int), GC_of (fun q => less_int)]
        refine ⟨[z, y, x], ⟨rfl, by simp; omega, by simp; omega⟩, by simp, Upd.refl.put1⟩
      · simp (maxSteps := 10000000) (disch := first | assumption | ((try simp only [push_next, put_next, adv_next, List.length_cons, List.length_nil, List.length_map, List.length_set]); omega) | simp) [G_round, hg, h1, h2, h3, GCI_of (fun q => less_int), GC_of (fun q => less_int)]
        refine ⟨[y, z, x], ⟨rfl, by simp; omega, by simp; omega⟩, by simp, Upd.refl.put1⟩
    · simp (maxSteps := 10000000) (disch := first | assumption | ((try simp only [push_next, put_next, adv_next, List.length_cons, List.length_nil, List.length_map, List.length_set]); omega) | simp) [G_round, hg, h1, h2, GCI_of (fun q => less_int), GC_of (fun q => less_int)]
      refine ⟨[y, x, z], ⟨rfl, by simp; omega, by simp; omega⟩, by simp, Upd.refl.put1⟩
  · by_cases h2 : z < y
    · by_cases h3 : z < x
      · simp (maxSteps := 10000000) (disch := first | assumption | ((try simp only [push_next, put_next, adv_next, List.length_cons, List.length_nil, List.length_map, List.length_set]); omega) | simp) [G_round, hg, h1, h2, h3, GCI_of (fun q => less_int), GC_of (fun q => less_int)]
        refine ⟨[z, x, y], ⟨rfl, by simp; omega, by simp; omega⟩, by simp, Upd.refl.put1⟩
      · simp (maxSteps := 10000000) (disch := first | assumption | ((try simp only [push_next, put_next, adv_next, List.length_cons, List.length_nil, List.length_map, List.length_set]); omega) | simp) [G_round, hg, h1, h2, h3, GCI_of (fun q => less_int), GC_of (fun q => less_int)]
        refine ⟨[x, z, y], ⟨rfl, by simp; omega, by simp; omega⟩, by simp, Upd.refl.put1⟩
    · simp (maxSteps := 10000000) (disch := first | assumption | ((try simp only [push_next, put_next, adv_next, List.length_cons, List.length_nil, List.length_map, List.length_set]); omega) | simp) [G_round, hg, h1, h2, GCI_of (fun q => less_int), GC_of (fun q => less_int)]
      refine ⟨[x, y, z], ⟨rfl, by simp; omega, by simp⟩, by simp, .refl⟩
end
end Go.Proofs.Ytjobkhnanbkcjaa.Cd

/- What an operation asks and writes: the program's. -/
set_option maxRecDepth 1000000
set_option maxHeartbeats 8000000
set_option linter.unusedSimpArgs false
set_option linter.unusedVariables false
namespace Go.Proofs.Ytjobkhnanbkcjaa.Cd
open Go Go.Dx
section
variable {h : Hp} {q : Value → Hp → Prop} {b c : Nat} {x y z : Int} {o : IOp}
theorem pdq {a : Option Addr} {n : Nat} {k : Int} {P : Hp → Prop} (hn : n ≤ 12) (hi : WC T n_slices_insertionSortOrdered_int [.slice a n c, .int .i64 0, .int .i64 n] h fun v h' => P h') : WC T n_slices_pdqsortOrdered_int [.slice a n c, .int .i64 0, .int .i64 n, .int .i64 k] h fun v h' => P h' := by
  have h1 : (n : Int) ≤ 12 := by omega
  rw [w_slices_pdqsortOrdered_int]
  simp (maxSteps := 10000000) (disch := first | assumption | ((try simp only [push_next, put_next, adv_next, List.length_cons, List.length_nil, List.length_map, List.length_set]); omega) | simp) [G_round, h1]
  refine GC_intro hi fun v h' hp => ?_
  simp (maxSteps := 10000000) (disch := first | assumption | ((try simp only [push_next, put_next, adv_next, List.length_cons, List.length_nil, List.length_map, List.length_set]); omega) | simp)
  exact hp
theorem sort_of {a : Option Addr} {n : Nat} {P : Hp → Prop} (hn : n ≤ 12) (hi : WC T n_slices_insertionSortOrdered_int [.slice a n c, .int .i64 0, .int .i64 n] h fun v h' => P h') : WC T n_slices_Sort_int_int [.slice a n c] h fun v h' => P h' := by
  rw [w_slices_Sort_int_int]
  simp (maxSteps := 10000000) (disch := first | assumption | ((try simp only [push_next, put_next, adv_next, List.length_cons, List.length_nil, List.length_map, List.length_set]); omega) | simp)
  refine GC_intro (len64 (by omega)) fun v h' ⟨hh, k, hv⟩ => ?_
  subst hh
  subst hv
  simp (maxSteps := 10000000) (disch := first | assumption | ((try simp only [push_next, put_next, adv_next, List.length_cons, List.length_nil, List.length_map, List.length_set]); omega) | simp)
  refine GC_intro (pdq hn hi) fun v h2 hp => ?_
  simp (maxSteps := 10000000) (disch := first | assumption | ((try simp only [push_next, put_next, adv_next, List.length_cons, List.length_nil, List.length_map, List.length_set]); omega) | simp)
  exact hp
def Cmp3 (m r : List Int) : Prop := r.Pairwise (· < ·) ∧ ∀ c, c ∈ r ↔ c ∈ m
theorem compact1 : WC T n_slices_Compact_int_int [.slice (some ⟨b, 0, none⟩) 1 1] h fun v h' => v = .slice (some ⟨b, 0, none⟩) 1 1 ∧ h' = h := by
  rw [w_slices_Compact_int_int]
  simp (maxSteps := 10000000) (disch := first | assumption | ((try simp only [push_next, put_next, adv_next, List.length_cons, List.length_nil, List.length_map, List.length_set]); omega) | simp)
theorem compact0 : WC T n_slices_Compact_int_int [.slice none 0 0] h fun v h' => v = .slice none 0 0 ∧ h' = h := by
  rw [w_slices_Compact_int_int]
  simp (maxSteps := 10000000) (disch := first | assumption | ((try simp only [push_next, put_next, adv_next, List.length_cons, List.length_nil, List.length_map, List.length_set]); omega) | simp)
def Sz (h : Hp) (v : Value) (r : List Int) : Prop := ∃ a c, v = .slice a r.length c ∧ Sees encZ h a r
theorem sz_of {h : Hp} {b : Nat} {s : Option Nat} {r k : List Int} {c : Nat} (hs : s = none) (hg : h.get b = some (.cells false ((r ++ k).map (Value.int .i64)))) : Sz h (.slice (some ⟨b, 0, s⟩) r.length c) r := by
  subst hs
  refine ⟨_, _, rfl, ⟨fun hA => (by cases hA), fun A hA => ?_, fun A hA => (by cases hA; exact .inl rfl)⟩⟩
  cases hA
  simp only [Hp.rdn, Hp.cells, hg, Option.bind_some, Nat.zero_add, encZ_sz, Nat.mul_one]
  rw [if_pos (by simp)]
  simp [encZ_all]
theorem compact2 (hg : h.get b = some (.cells false [.int .i64 x, .int .i64 y])) (hm : x ≤ y) : WC T n_slices_Compact_int_int [.slice (some ⟨b, 0, none⟩) 2 2] h fun v h' => ∃ r, Cmp3 [x, y] r ∧ Sz h' v r ∧ Upd h h' [b] [b] := by
  have hlt := lt_of_get hg
  rw [w_slices_Compact_int_int]
  by_cases h1 : x = y
  · simp (maxSteps := 10000000) (disch := first | assumption | ((try simp only [push_next, put_next, adv_next, List.length_cons, List.length_nil, List.length_map, List.length_set]); omega) | simp) [G_round, hg, h1, sliceV, bounds, asN]
    refine ⟨[y], ⟨by simp, by simp⟩, sz_of (r := [y]) (k := [0]) rfl (by simp [get_put_self hlt]), Upd.refl.put1⟩
  · have h2 : ¬ y = x := fun e => h1 e.symm
    simp (maxSteps := 10000000) (disch := first | assumption | ((try simp only [push_next, put_next, adv_next, List.length_cons, List.length_nil, List.length_map, List.length_set]); omega) | simp) [G_round, hg, h1, h2, sliceV, bounds, asN]
    refine ⟨[x, y], ⟨by simp; omega, by simp⟩, sz_of (r := [x, y]) (k := []) rfl (by simp [hg]), .refl⟩
theorem compact3 (hg : h.get b = some (.cells false [.int .i64 x, .int .i64 y, .int .i64 z])) (hm : x ≤ y) (hn : y ≤ z) : WC T n_slices_Compact_int_int [.slice (some ⟨b, 0, none⟩) 3 3] h fun v h' => ∃ r, Cmp3 [x, y, z] r ∧ Sz h' v r ∧ Upd h h' [b] [b] := by
  have hlt := lt_of_get hg
  rw [w_slices_Compact_int_int]
  by_cases h1 : y = x
  · by_cases h2 : z = y
    · simp (maxSteps := 10000000) (disch := first | assumption | ((try simp only [push_next, put_next, adv_next, List.length_cons, List.length_nil, List.length_map, List.length_set]); omega) | simp) [G_round, hg, h1, h2, sliceV, bounds, asN]
      refine ⟨[x], ⟨by simp, by simp⟩, sz_of (r := [x]) (k := [0, 0]) rfl (by simp [get_put_self hlt]), Upd.refl.put1⟩
    · have h3 : ¬ z = x := by omega
      simp (maxSteps := 10000000) (disch := first | assumption | ((try simp only [push_next, put_next, adv_next, List.length_cons, List.length_nil, List.length_map, List.length_set]); omega) | simp) [G_round, hg, h1, h2, h3, sliceV, bounds, asN]
      refine ⟨[x, z], ⟨by simp; omega, by simp⟩, sz_of (r := [x, z]) (k := [0]) rfl (by simp [get_put_self hlt]), Upd.refl.put1⟩
  · by_cases h2 : z = y
    · simp (maxSteps := 10000000) (disch := first | assumption | ((try simp only [push_next, put_next, adv_next, List.length_cons, List.length_nil, List.length_map, List.length_set]); omega) | simp) [G_round, hg, h1, h2, sliceV, bounds, asN]
      refine ⟨[x, y], ⟨by simp; omega, by simp⟩, sz_of (r := [x, y]) (k := [0]) rfl (by simp [get_put_self hlt]), Upd.refl.put1⟩
    · simp (maxSteps := 10000000) (disch := first | assumption | ((try simp only [push_next, put_next, adv_next, List.length_cons, List.length_nil, List.length_map, List.length_set]); omega) | simp) [G_round, hg, h1, h2, sliceV, bounds, asN]
      refine ⟨[x, y, z], ⟨by simp; omega, by simp⟩, sz_of (r := [x, y, z]) (k := []) rfl (by simp [hg]), .refl⟩
end
end Go.Proofs.Ytjobkhnanbkcjaa.Cd

/- Small operations: what the document's functions do. -/
set_option maxRecDepth 1000000
set_option maxHeartbeats 4000000
set_option linter.unusedSimpArgs false
set_option linter.unusedVariables false
namespace Go.Proofs.Ytjobkhnanbkcjaa.Cd
open Go Go.Dx
section
variable {h : Hp} {q : Value → Hp → Prop} {o : IOp} {R : Regs} {c cp : Nat} {a : Option Addr} {L : List IOp}
theorem bit_at {v : BitVec 32} {i : Nat} (h1 : v.toNat < 2 ^ (i + 1)) : ((v >>> i) &&& 1#32 == 1#32) = decide (2 ^ i ≤ v.toNat) := by
  have hp := Nat.two_pow_pos i
  have h2 : v.toNat / 2 ^ i < 2 := (Nat.div_lt_iff_lt_mul hp).2 (by rw [Nat.pow_succ] at h1; omega)
  rw [Bool.eq_iff_iff, beq_iff_eq, decide_eq_true_eq]
  constructor
  · intro hh
    have := congrArg BitVec.toNat hh
    rw [BitVec.toNat_and, BitVec.toNat_ushiftRight, Nat.shiftRight_eq_div_pow] at this
    apply Classical.byContradiction
    intro h3
    rw [Nat.div_eq_of_lt (by omega)] at this
    simp at this
  · intro hh
    have h3 : v.toNat / 2 ^ i = 1 := by
      have := (Nat.le_div_iff_mul_le hp).2 (show 1 * 2 ^ i ≤ v.toNat by omega)
      omega
    apply BitVec.eq_of_toNat_eq
    rw [BitVec.toNat_and, BitVec.toNat_ushiftRight, Nat.shiftRight_eq_div_pow, h3]
    rfl
theorem ref_clz {v : BitVec 32} : WC T n_pianolaref1_Clz [u32 v] h fun u h' => u = .int .i64 (clz v) ∧ h' = h := by
  rw [w_pianolaref1_Clz]
  simp (maxSteps := 10000000) (disch := first | assumption | ((try simp only [push_next, put_next, adv_next, List.length_cons, List.length_nil, List.length_map, List.length_set]); omega) | simp)
  refine G_loop (fun n e h' => ∃ i : Nat, n = i ∧ i ≤ 32 ∧ v.toNat < 2 ^ i ∧ h' = h ∧ e 0 = u32 v ∧ e 3 = .int .i64 (32 - i) ∧ e 4 = .int .i64 ((i : Int) - 1)) ?_ 32 _ _ ⟨32, rfl, by omega, v.isLt, rfl, by simp, by simp, by simp⟩
  rintro n ih e h' ⟨i, rfl, hi, hv, rfl, e0, e3, e4⟩
  cases n with
  | zero =>
    have hz : v = 0#32 := BitVec.eq_of_toNat_eq (by simp at hv ⊢; omega)
    simp (maxSteps := 10000000) (disch := first | assumption | ((try simp only [push_next, put_next, adv_next, List.length_cons, List.length_nil, List.length_map, List.length_set]); omega) | simp) [e0, e3, e4]
    rw [hz, clz_zero]; rfl
  | succ i =>
    have e4' : e 4 = .int .i64 i := by rw [e4]; congr 1; omega
    have hg : (0 : Int) ≤ i := by omega
    have hc : i % 18446744073709551616 = i := by omega
    have hb := bit_at hv
    by_cases h1 : 2 ^ i ≤ v.toNat
    · simp only [h1, decide_true, beq_iff_eq] at hb
      simp (maxSteps := 10000000) (disch := first | assumption | ((try simp only [push_next, put_next, adv_next, List.length_cons, List.length_nil, List.length_map, List.length_set]); omega) | simp) [e0, e3, e4', hg, hc, hb]
      rw [clz_top h1 hv (by omega)]
      omega
    · simp only [h1, decide_false, beq_eq_false_iff_ne, ne_eq] at hb
      have hs : IntKind.i64.wrap (32 - ((i : Int) + 1) + 1) = 32 - (i : Int) := by rw [wrap_i64 (by omega) (by omega)]; omega
      simp (maxSteps := 10000000) (disch := first | assumption | ((try simp only [push_next, put_next, adv_next, List.length_cons, List.length_nil, List.length_map, List.length_set]); omega) | simp) [e0, e3, e4', hg, hc, hb]
      refine ih i (by omega) _ _ ⟨i, rfl, by omega, by omega, rfl, by simp [e0], ?_, ?_⟩
      · simp; omega
      · simp
theorem ref_clo {v : BitVec 32} : WC T n_pianolaref1_Clo [u32 v] h fun u h' => u = .int .i64 (clz (~~~ v)) ∧ h' = h := by
  rw [w_pianolaref1_Clo]
  simp (maxSteps := 10000000) (disch := first | assumption | ((try simp only [push_next, put_next, adv_next, List.length_cons, List.length_nil, List.length_map, List.length_set]); omega) | simp)
  refine GC_intro ref_clz fun u h' ⟨hu, hh⟩ => ?_
  subst hu
  subst hh
  simp (maxSteps := 10000000) (disch := first | assumption | ((try simp only [push_next, put_next, adv_next, List.length_cons, List.length_nil, List.length_map, List.length_set]); omega) | simp)
theorem ref_sar {v : BitVec 32} {n : Nat} (hn : n < 32) : WC T n_pianolaref1_Sar [u32 v, .int .i64 n] h fun u h' => u = u32 (sar v n) ∧ h' = h := by
  rw [w_pianolaref1_Sar]
  have h1 : ((n : Int).tmod 32) = n := by rw [Int.tmod_eq_emod_of_nonneg (by omega)]; omega
  have h2 : ((n : Int) + 32).tmod 32 = n := by
    rw [Int.tmod_eq_emod_of_nonneg (by omega)]; omega
  simp (maxSteps := 10000000) (disch := first | assumption | ((try simp only [push_next, put_next, adv_next, List.length_cons, List.length_nil, List.length_map, List.length_set]); omega) | simp) [h1, h2]
  refine G_loop (fun m e h' => ∃ j : Nat, m = n - j ∧ j ≤ n ∧ h' = h ∧ e 0 = u32 (sar v j) ∧ e 5 = u64 (BitVec.ofNat 64 (n - j))) ?_ n _ _ ⟨0, by omega, by omega, rfl, by simp [sar_zero], by simp⟩
  rintro m ih e h' ⟨j, rfl, hj, rfl, e0, e5⟩
  by_cases hjn : j = n
  · subst hjn
    simp (maxSteps := 10000000) (disch := first | assumption | ((try simp only [push_next, put_next, adv_next, List.length_cons, List.length_nil, List.length_map, List.length_set]); omega) | simp) [e0, e5]
  · have hp : 0#64 < BitVec.ofNat 64 (n - j) := by
      rw [BitVec.lt_def]; simp; omega
    have hd : BitVec.ofNat 64 (n - j) - 1#64 = BitVec.ofNat 64 (n - (j + 1)) := by
      apply BitVec.eq_of_toNat_eq
      simp only [BitVec.toNat_sub, BitVec.toNat_ofNat]
      omega
    simp (maxSteps := 10000000) (disch := first | assumption | ((try simp only [push_next, put_next, adv_next, List.length_cons, List.length_nil, List.length_map, List.length_set]); omega) | simp) [e0, e5, hp]
    refine ih (n - (j + 1)) (by omega) _ _ ⟨j + 1, rfl, by omega, rfl, ?_, ?_⟩
    · simp [sar_one, sar_add]
    · simp [hd]
end
end Go.Proofs.Ytjobkhnanbkcjaa.Cd

/- Rows of small operations: what the document does with them. -/
set_option maxRecDepth 1000000
set_option maxHeartbeats 8000000
set_option linter.unusedSimpArgs false
set_option linter.unusedVariables false
namespace Go.Proofs.Ytjobkhnanbkcjaa.Cd
open Go Go.Dx
section
variable {h : Hp} {q : Value → Hp → Prop} {o : IOp} {R : Regs} {c cp : Nat} {a : Option Addr} {L : List IOp}
theorem ref_sarI {v : BitVec 32} {n : Nat} : WC T n_pianolaref1_Sar [u32 v, .int .i64 ((n % 32 : Nat) : Int)] h q ↔ q (u32 (sar v (n % 32))) h := WC_iff (ref_sar (by omega)) q
theorem ref_clzI {v : BitVec 32} : WC T n_pianolaref1_Clz [u32 v] h q ↔ q (.int .i64 (clz v)) h := WC_iff ref_clz q
theorem ref_cloI {v : BitVec 32} : WC T n_pianolaref1_Clo [u32 v] h q ↔ q (.int .i64 (clz (~~~ v))) h := WC_iff ref_clo q
theorem ref_one (ho : o.ok) (hR : R.length = 40) (hg : h.get c = some (.cells false (R.map u32))) (hq : ∀ h', h'.get c = some (.cells false ((ido R o).map u32)) → Upd h h' [c] [c] → q (.tuple #[]) h') :
    WC T n_pianolaref18_One [.slice (some ⟨c, 0, none⟩) 40 cp, .agg (encOp.enc o).toArray] h q := by
  obtain ⟨⟨d0, d1⟩, ⟨a0, a1⟩, ⟨b0, b1⟩, k0, k1⟩ := id ho
  have hlt := lt_of_get hg
  have ra := rg_get (R := R) a0 (by omega)
  have rb := rg_get (R := R) b0 (by omega)
  have o1 := fun (l : List Value) n v => over_set (l := l) (i := n) (v := v)
  have dl : o.d ≤ 39 := by omega
  have fact : ∀ (g : Hp) (C : List Value), (∀ b, b < h.next → b ≠ c → g.get b = h.get b) → h.next ≤ g.next → C = (ido R o).map u32 → q (.tuple #[]) (g.put c (some (.cells false C))) := fun g C h1 h2 h3 => by
    subst h3
    exact hq _ (get_put_self (by omega)) (upd_one h1 h2)
  have same : ido R o = R → q (.tuple #[]) (h.push (.cells false (encOp.enc o))) := fun hd => hq _ (by rw [get_push_ne (by omega), hg, hd]) ⟨by simp, fun b hb _ => get_push_ne (by omega), fun b hb => .inl hb⟩
  simp only [encOp] at same
  rw [w_pianolaref18_One]
  have ks : o.k = 0 ∨ (o.k = 17 ∨ o.k = 18) ∨ (o.k = 19 ∨ o.k = 20) ∨ (o.k = 21 ∨ o.k = 22) ∨ (o.k = 1 ∨ o.k = 2 ∨ o.k = 3 ∨ o.k = 4 ∨ o.k = 5 ∨ o.k = 6 ∨ o.k = 7 ∨ o.k = 8 ∨ o.k = 9 ∨ o.k = 10 ∨ o.k = 11 ∨ o.k = 12 ∨ o.k = 13 ∨ o.k = 14 ∨ o.k = 15 ∨ o.k = 16) := by omega
  rcases ks with hk | hk | hk | hk | hk
  · have := same (by unfold ido; simp [hk])
    simp [hk] at this
    simp (maxSteps := 10000000) (disch := first | assumption | ((try simp only [push_next, put_next, adv_next, List.length_cons, List.length_nil, List.length_map, List.length_set]); omega) | simp) [encOp, hk, hg, ra, rb, hR]
    exact this
  · rcases hk with hk | hk <;>
    · simp (maxSteps := 10000000) (disch := first | assumption | ((try simp only [push_next, put_next, adv_next, List.length_cons, List.length_nil, List.length_map, List.length_set]); omega) | simp) [encOp, hk, hg, ra, rb, hR, -over, o1, GC_of (fun q => ref_mul)]
      refine fact _ _ ?_ ?_ ?_
      · intro b hb hbc; rw [get_push_ne (by omega)]
      · simp
      · simp [ido, hk]
  · rcases hk with hk | hk <;>
    · simp (maxSteps := 10000000) (disch := first | assumption | ((try simp only [push_next, put_next, adv_next, List.length_cons, List.length_nil, List.length_map, List.length_set]); omega) | simp) [encOp, hk, hg, ra, rb, hR, -over, o1, GC_of (fun q => ref_div)]
      refine fact _ _ ?_ ?_ ?_
      · intro b hb hbc; rw [get_push_ne (by omega)]
      · simp
      · simp [ido, hk]
  · by_cases z : rg R o.b = 0#32
    · rcases hk with hk | hk
      · by_cases hd : o.d = 0
        · have := same (by unfold ido; simp [hk, hd])
          simp [hk, hd] at this
          simp (maxSteps := 10000000) (disch := first | assumption | ((try simp only [push_next, put_next, adv_next, List.length_cons, List.length_nil, List.length_map, List.length_set]); omega) | simp) [encOp, hk, hd, hg, ra, rb, hR, -over, o1, z]
          exact this
        · have hp : 0 < o.d := by omega
          simp (maxSteps := 10000000) (disch := first | assumption | ((try simp only [push_next, put_next, adv_next, List.length_cons, List.length_nil, List.length_map, List.length_set]); omega) | simp) [encOp, hk, hp, hg, ra, rb, hR, dl, -over, o1, z]
          refine fact _ _ ?_ ?_ ?_
          · intro b hb hbc; rw [get_push_ne (by omega)]
          · simp
          · simp [ido, hk, hd, z, iof]
      · have := same (by unfold ido; simp [hk, z])
        simp [hk] at this
        simp (maxSteps := 10000000) (disch := first | assumption | ((try simp only [push_next, put_next, adv_next, List.length_cons, List.length_nil, List.length_map, List.length_set]); omega) | simp) [encOp, hk, hg, ra, rb, hR, -over, o1, z]
        exact this
    · rcases hk with hk | hk
      · have := same (by unfold ido; simp [hk, z])
        simp [hk] at this
        simp (maxSteps := 10000000) (disch := first | assumption | ((try simp only [push_next, put_next, adv_next, List.length_cons, List.length_nil, List.length_map, List.length_set]); omega) | simp) [encOp, hk, hg, ra, rb, hR, -over, o1, z]
        exact this
      · by_cases hd : o.d = 0
        · have := same (by unfold ido; simp [hk, hd])
          simp [hk, hd] at this
          simp (maxSteps := 10000000) (disch := first | assumption | ((try simp only [push_next, put_next, adv_next, List.length_cons, List.length_nil, List.length_map, List.length_set]); omega) | simp) [encOp, hk, hd, hg, ra, rb, hR, -over, o1, z]
          exact this
        · have hp : 0 < o.d := by omega
          simp (maxSteps := 10000000) (disch := first | assumption | ((try simp only [push_next, put_next, adv_next, List.length_cons, List.length_nil, List.length_map, List.length_set]); omega) | simp) [encOp, hk, hp, hg, ra, rb, hR, dl, -over, o1, z]
          refine fact _ _ ?_ ?_ ?_
          · intro b hb hbc; rw [get_push_ne (by omega)]
          · simp
          · simp [ido, hk, hd, z, iof]
  · by_cases hd : o.d = 0
    · have sm : ido R o = R := by
        unfold ido
        rw [if_neg (by omega), if_neg (by omega), if_pos (.inr (.inl hd))]
      have := same sm
      rcases hk with hk | hk | hk | hk | hk | hk | hk | hk | hk | hk | hk | hk | hk | hk | hk | hk <;>
      · simp [hk, hd] at this
        simp (maxSteps := 10000000) (disch := first | assumption | ((try simp only [push_next, put_next, adv_next, List.length_cons, List.length_nil, List.length_map, List.length_set]); omega) | simp) [encOp, hk, hd, hg, ra, rb, hR, -over, o1, GC_of (fun q => ref_less), GC_of (fun q => ref_bit), GC_of (fun q => ref_mul), GC_of (fun q => ref_sarI), GC_of (fun q => ref_clzI), GC_of (fun q => ref_cloI), -Int.natCast_emod]
        exact this
    · have hp : 0 < o.d := by omega
      rcases hk with hk | hk | hk | hk | hk | hk | hk | hk | hk | hk | hk | hk | hk | hk | hk | hk <;>
      · simp (maxSteps := 10000000) (disch := first | assumption | ((try simp only [push_next, put_next, adv_next, List.length_cons, List.length_nil, List.length_map, List.length_set]); omega) | simp) [encOp, hk, hp, hg, ra, rb, hR, dl, -over, o1, GC_of (fun q => ref_less), GC_of (fun q => ref_bit), GC_of (fun q => ref_mul), GC_of (fun q => ref_sarI), GC_of (fun q => ref_clzI), GC_of (fun q => ref_cloI), -Int.natCast_emod]
        refine fact _ _ ?_ ?_ ?_
        · intro b hb hbc; rw [get_push_ne (by omega)]
        · simp
        · simp [ido, hk, hd, iof]
end
end Go.Proofs.Ytjobkhnanbkcjaa.Cd

/- What an operation asks and writes: the program's, the document's. -/
set_option maxRecDepth 1000000
set_option maxHeartbeats 8000000
set_option linter.unusedSimpArgs false
set_option linter.unusedVariables false
namespace Go.Proofs.Ytjobkhnanbkcjaa.Cd
open Go Go.Dx
section
variable {h : Hp} {q : Value → Hp → Prop} {b c : Nat} {x y z : Int} {o : IOp}
theorem sz_nil : Sz h (.slice none 0 0) [] := ⟨none, 0, rfl, .nul⟩
theorem sz_kp {h h' : Hp} {v : Value} {r : List Int} (hs : Sz h v r) (k : Kp h h') : Sz h' v r := by
  obtain ⟨a, c, rfl, s⟩ := hs
  exact ⟨a, c, rfl, s.kp k⟩
theorem kp_upd {g h h' : Hp} {b : Nat} (k : Kp g h) (u : Upd h h' [b] [b]) (hb : g.next ≤ b) : Kp g h' := u.kp' k (by simpa using hb)
theorem srtd_of {m r l : List Int} (h1 : Smp l m) (h2 : Cmp3 m r) (hb : ∀ c ∈ l, 0 ≤ c ∧ c < 40) : r = srtd l :=
  (srtd_eq h2.1 (fun c => (h2.2 c).trans (h1.2.2 c)) hb).symm
theorem sort1 {h : Hp} : WC T n_slices_Sort_int_int [.slice (some ⟨b, 0, none⟩) 1 1] h fun v h' => h' = h := sort_of (by omega) ins1
theorem sort0 {h : Hp} : WC T n_slices_Sort_int_int [.slice none 0 0] h fun v h' => h' = h := sort_of (by omega) ins0
theorem sort2 {h : Hp} (hg : h.get b = some (.cells false [.int .i64 x, .int .i64 y])) : WC T n_slices_Sort_int_int [.slice (some ⟨b, 0, none⟩) 2 2] h fun v h' => ∃ m, Smp [x, y] m ∧ h'.get b = some (.cells false (m.map (Value.int .i64))) ∧ Upd h h' [b] [b] := sort_of (by omega) (ins2 hg)
theorem sort3 {h : Hp} (hg : h.get b = some (.cells false [.int .i64 x, .int .i64 y, .int .i64 z])) : WC T n_slices_Sort_int_int [.slice (some ⟨b, 0, none⟩) 3 3] h fun v h' => ∃ m, Smp [x, y, z] m ∧ h'.get b = some (.cells false (m.map (Value.int .i64))) ∧ Upd h h' [b] [b] := sort_of (by omega) (ins3 hg)
theorem two_of {m : List Int} (h : m.length = 2) : ∃ x y, m = [x, y] := by
  match m, h with
  | [x, y], _ => exact ⟨x, y, rfl⟩
theorem three_of {m : List Int} (h : m.length = 3) : ∃ x y z, m = [x, y, z] := by
  match m, h with
  | [x, y, z], _ => exact ⟨x, y, z, rfl⟩
theorem ir_reads : WC T n_ir_Reads [.agg (encOp.enc o).toArray] h fun v h' => Sz h' v (ireads o) ∧ Kp h h' := by
  have irr := fun (h : Hp) (q : Value → Hp → Prop) => ir_right (h := h) (q := q) (o := o)
  simp only [encOp] at irr
  have K0 : Kp h (((h.push (.cells false (encOp.enc o))).push (.cells false (encOp.enc o))).push (.cells false [.int .i64 o.d, .int .i64 o.a, .int .i64 o.b])) := ((((Kp.refl h).push _).push _).push _)
  rw [w_ir_Reads]
  by_cases ho : o.ok
  case neg =>
    have e : ireads o = [] := by unfold ireads; rw [if_pos (.inl ho)]
    rw [e]
    simp (maxSteps := 10000000) (disch := first | assumption | ((try simp only [push_next, put_next, adv_next, List.length_cons, List.length_nil, List.length_map, List.length_set]); omega) | simp) [encOp, Hp.rdn, GC_of (fun q => irr _ q), ho]
    refine GC_intro sort0 fun v h1 hh => ?_
    subst hh
    simp (maxSteps := 10000000) (disch := first | assumption | ((try simp only [push_next, put_next, adv_next, List.length_cons, List.length_nil, List.length_map, List.length_set]); omega) | simp)
    refine GC_intro compact0 fun v h1 ⟨hv, hh⟩ => ?_
    subst hh
    subst hv
    simp (maxSteps := 10000000) (disch := first | assumption | ((try simp only [push_next, put_next, adv_next, List.length_cons, List.length_nil, List.length_map, List.length_set]); omega) | simp)
    exact ⟨sz_nil, K0⟩
  by_cases hk : o.k = 0 ∨ o.k = 1
  · have e : ireads o = [] := by unfold ireads; rw [if_pos (.inr hk)]
    rw [e]
    simp only [encOp] at K0
    rcases hk with hk | hk <;>
    · simp only [hk] at irr K0
      simp (maxSteps := 10000000) (disch := first | assumption | ((try simp only [push_next, put_next, adv_next, List.length_cons, List.length_nil, List.length_map, List.length_set]); omega) | simp) [encOp, Hp.rdn, GC_of (fun q => irr _ q), ho, hk]
      refine GC_intro sort0 fun v h1 hh => ?_
      subst hh
      simp (maxSteps := 10000000) (disch := first | assumption | ((try simp only [push_next, put_next, adv_next, List.length_cons, List.length_nil, List.length_map, List.length_set]); omega) | simp)
      refine GC_intro compact0 fun v h1 ⟨hv, hh⟩ => ?_
      subst hh
      subst hv
      simp (maxSteps := 10000000) (disch := first | assumption | ((try simp only [push_next, put_next, adv_next, List.length_cons, List.length_nil, List.length_map, List.length_set]); omega) | simp)
      exact ⟨sz_nil, K0⟩
  have hk0 : o.k ≠ 0 ∧ o.k ≠ 1 := by omega
  have h3 : ¬ (¬ o.ok ∨ o.k = 0 ∨ o.k = 1) := by simp [ho, hk0]
  have ho' := ho
  obtain ⟨⟨d0, d1⟩, ⟨a0, a1⟩, ⟨b0, b1⟩, _, _⟩ := ho'
  have e0 : ireads o = if o.k = 2 ∨ o.k = 15 ∨ o.k = 16 then srtd [o.a] else if o.k = 21 ∨ o.k = 22 then srtd [o.a, o.b, o.d] else srtd [o.a, o.b] := by unfold ireads; rw [if_neg h3]
  by_cases hk1 : o.k = 2 ∨ o.k = 15 ∨ o.k = 16
  · rw [e0, if_pos hk1]
    have es : [o.a] = srtd [o.a] := srtd_of (m := [o.a]) ⟨rfl, by simp, fun _ => Iff.rfl⟩ ⟨by simp, fun _ => Iff.rfl⟩ (by simp; omega)
    rw [← es]
    simp only [encOp] at K0
    rcases hk1 with hk | hk | hk <;>
    · simp only [hk] at irr K0
      simp (maxSteps := 10000000) (disch := first | assumption | ((try simp only [push_next, put_next, adv_next, List.length_cons, List.length_nil, List.length_map, List.length_set]); omega) | simp) [encOp, Hp.rdn, GC_of (fun q => irr _ q), ho, hk]
      refine GC_intro sort1 fun v h1 hh => ?_
      subst hh
      simp (maxSteps := 10000000) (disch := first | assumption | ((try simp only [push_next, put_next, adv_next, List.length_cons, List.length_nil, List.length_map, List.length_set]); omega) | simp)
      refine GC_intro compact1 fun v h1 ⟨hv, hh⟩ => ?_
      subst hh
      subst hv
      simp (maxSteps := 10000000) (disch := first | assumption | ((try simp only [push_next, put_next, adv_next, List.length_cons, List.length_nil, List.length_map, List.length_set]); omega) | simp)
      exact ⟨sz_of (r := [o.a]) (k := []) rfl (get_push_at (by simp) (by simp)), K0.push _⟩
  have hk1' : o.k ≠ 2 ∧ o.k ≠ 15 ∧ o.k ≠ 16 := by omega
  by_cases hk2 : o.k = 21 ∨ o.k = 22
  · rw [e0, if_neg hk1, if_pos hk2]
    simp only [encOp] at K0
    rcases hk2 with hk | hk <;>
    · simp only [hk] at irr K0
      simp (maxSteps := 10000000) (disch := first | assumption | ((try simp only [push_next, put_next, adv_next, List.length_cons, List.length_nil, List.length_map, List.length_set]); omega) | simp) [encOp, Hp.rdn, GC_of (fun q => irr _ q), ho, hk]
      refine GC_intro (sort3 (x := o.a) (y := o.b) (z := o.d) (get_push_at (by simp) (by simp))) fun v h1 ⟨m, hm, hg, U⟩ => ?_
      obtain ⟨x, y, z, rfl⟩ := three_of hm.1
      have hm2 := hm.2.1
      simp at hm2
      simp (maxSteps := 10000000) (disch := first | assumption | ((try simp only [push_next, put_next, adv_next, List.length_cons, List.length_nil, List.length_map, List.length_set]); omega) | simp)
      refine GC_intro (compact3 hg (by omega) (by omega)) fun v h2 ⟨r, hr, hz, U2⟩ => ?_
      simp (maxSteps := 10000000) (disch := first | assumption | ((try simp only [push_next, put_next, adv_next, List.length_cons, List.length_nil, List.length_map, List.length_set]); omega) | simp)
      rw [← srtd_of hm hr (by simp; omega)]
      exact ⟨hz, kp_upd (kp_upd (K0.push _) U (by omega)) U2 (by omega)⟩
  · have hk2' : o.k ≠ 21 ∧ o.k ≠ 22 := by omega
    rw [e0, if_neg hk1, if_neg hk2]
    simp only [encOp] at K0
    simp (maxSteps := 10000000) (disch := first | assumption | ((try simp only [push_next, put_next, adv_next, List.length_cons, List.length_nil, List.length_map, List.length_set]); omega) | simp) [encOp, Hp.rdn, GC_of (fun q => irr _ q), ho, hk0, hk1', hk2']
    refine GC_intro (sort2 (x := o.a) (y := o.b) (get_push_at (by simp) (by simp))) fun v h1 ⟨m, hm, hg, U⟩ => ?_
    obtain ⟨x, y, rfl⟩ := two_of hm.1
    have hm2 := hm.2.1
    simp at hm2
    simp (maxSteps := 10000000) (disch := first | assumption | ((try simp only [push_next, put_next, adv_next, List.length_cons, List.length_nil, List.length_map, List.length_set]); omega) | simp)
    refine GC_intro (compact2 hg (by omega)) fun v h2 ⟨r, hr, hz, U2⟩ => ?_
    simp (maxSteps := 10000000) (disch := first | assumption | ((try simp only [push_next, put_next, adv_next, List.length_cons, List.length_nil, List.length_map, List.length_set]); omega) | simp)
    rw [← srtd_of hm hr (by simp; omega)]
    exact ⟨hz, kp_upd (kp_upd (K0.push _) U (by omega)) U2 (by omega)⟩
end
end Go.Proofs.Ytjobkhnanbkcjaa.Cd

/- Are two rows the same? -/
set_option maxRecDepth 1000000
set_option linter.unusedSimpArgs false
set_option linter.unusedVariables false
namespace Go.Proofs.Ytjobkhnanbkcjaa.Cd
open Go Go.Dx
theorem same_int {h : Hp} {q : Value → Hp → Prop} {a a' : Option Addr} {c c' : Nat} {xs ys : List (Int)} (hx : Sees encZ h a xs) (hy : Sees encZ h a' ys) (hb : xs.length < 2 ^ 63) : WC T n_pianolabook_Same_int [.slice a xs.length c, .slice a' ys.length c'] h q ↔ q (.bool (decide (xs = ys))) h := by
  refine WC_iff ?_ q
  rw [w_pianolabook_Same_int]
  by_cases hl : xs.length = ys.length
  case neg =>
    have hne : xs ≠ ys := fun e => hl (by rw [e])
    have hl' : ¬ ((xs.length : Int) = ys.length) := by omega
    simp (maxSteps := 10000000) (disch := first | assumption | ((try simp only [push_next, put_next, adv_next, List.length_cons, List.length_nil, List.length_map, List.length_set]); omega) | simp) [hl', hne]
  simp (maxSteps := 10000000) (disch := first | assumption | ((try simp only [push_next, put_next, adv_next, List.length_cons, List.length_nil, List.length_map, List.length_set]); omega) | simp) [hl]
  refine G_loop (fun n e h' => ∃ us vs ws, n = vs.length ∧ h' = h ∧ xs = us ++ vs ∧ ys = us ++ ws ∧ e 0 = .slice a xs.length c ∧ e 1 = .slice a' ys.length c' ∧ e 5 = .int .i64 us.length) ?_ xs.length _ _ ⟨[], xs, ys, rfl, rfl, rfl, rfl, by simp [hl], by simp, by simp⟩
  rintro n ih e h' ⟨us, vs, ws, rfl, rfl, h1, h2, e0, e1, e5⟩
  cases vs with
  | nil =>
    have hw : ws = [] := by
      have h3 := hl
      rw [h1, h2] at h3
      simpa using h3
    subst hw
    have hxs : xs = us := by simpa using h1
    have hxy : xs = ys := by rw [h1, h2]
    have hll : us.length = xs.length := by rw [hxs]
    simp (maxSteps := 10000000) (disch := first | assumption | ((try simp only [push_next, put_next, adv_next, List.length_cons, List.length_nil, List.length_map, List.length_set]); omega) | simp) [e0, e5, hll, hxy]
  | cons x vs =>
    cases ws with
    | nil =>
      have h3 := hl
      rw [h1, h2] at h3
      simp at h3
    | cons y ws =>
      have hlt : (us.length : Int) < xs.length := by rw [h1]; simp; omega
      have hlt' : (us.length : Int) < ys.length := by omega
      obtain ⟨A, ro, C, hA, g1, k1⟩ := Sees.cell (f := (fun n => Value.int .i64 n)) (fun _ => rfl) rfl (us := us) (x := x) (vs := vs) (by rw [← h1]; exact hx)
      obtain ⟨A', ro', C', hA', g2, k2⟩ := Sees.cell (f := (fun n => Value.int .i64 n)) (fun _ => rfl) rfl (us := us) (x := y) (vs := ws) (by rw [← h2]; exact hy)
      by_cases hxy : x = y
      · simp (maxSteps := 10000000) (disch := first | assumption | ((try simp only [push_next, put_next, adv_next, List.length_cons, List.length_nil, List.length_map, List.length_set]); omega) | simp) [e0, e1, e5, hlt, hlt', hA, hA', g1, g2, k1, k2, hxy]
        apply ih vs.length (by simp)
        refine ⟨us ++ [x], vs, ws, rfl, rfl, by simp [h1], by simp [h2, hxy], by simp [e0, hA], by simp [e1, hA'], by simp⟩
      · have hne : xs ≠ ys := fun e => by rw [h1, h2] at e; simp [hxy] at e
        simp (maxSteps := 10000000) (disch := first | assumption | ((try simp only [push_next, put_next, adv_next, List.length_cons, List.length_nil, List.length_map, List.length_set]); omega) | simp) [e0, e1, e5, hlt, hlt', hA, hA', g1, g2, k1, k2, hxy, hne]
end Go.Proofs.Ytjobkhnanbkcjaa.Cd

/- What an operation asks and writes: the program's, the document's. -/
set_option maxRecDepth 1000000
set_option maxHeartbeats 8000000
set_option linter.unusedSimpArgs false
set_option linter.unusedVariables false
namespace Go.Proofs.Ytjobkhnanbkcjaa.Cd
open Go Go.Dx
section
variable {h : Hp} {q : Value → Hp → Prop} {b c : Nat} {x y z : Int} {o : IOp}
theorem ir_writes : WC T n_ir_Writes [.agg (encOp.enc o).toArray] h fun v h' => Sz h' v (iwrites o) ∧ Kp h h' := by
  have irr := fun (h : Hp) (q : Value → Hp → Prop) => ir_right (h := h) (q := q) (o := o)
  simp only [encOp] at irr
  have K0 : Kp h (((h.push (.cells false (encOp.enc o))).push (.cells false (encOp.enc o))).push (.cells false [.int .i64 o.d, .int .i64 o.a, .int .i64 o.b])) := ((((Kp.refl h).push _).push _).push _)
  simp only [encOp] at K0
  rw [w_ir_Writes]
  by_cases ho : o.ok
  case neg =>
    have e : iwrites o = [] := by unfold iwrites; rw [if_pos (.inl ho)]
    rw [e]
    simp (maxSteps := 10000000) (disch := first | assumption | ((try simp only [push_next, put_next, adv_next, List.length_cons, List.length_nil, List.length_map, List.length_set]); omega) | simp) [encOp, Hp.rdn, GC_of (fun q => irr _ q), ho]
    exact ⟨sz_nil, K0⟩
  by_cases hk : o.k = 0
  · have e : iwrites o = [] := by unfold iwrites; rw [if_pos (.inr hk)]
    rw [e]
    simp only [hk] at irr K0
    simp (maxSteps := 10000000) (disch := first | assumption | ((try simp only [push_next, put_next, adv_next, List.length_cons, List.length_nil, List.length_map, List.length_set]); omega) | simp) [encOp, Hp.rdn, GC_of (fun q => irr _ q), ho, hk]
    exact ⟨sz_nil, K0⟩
  have e0 : iwrites o = if 17 ≤ o.k ∧ o.k ≤ 20 then [32, 33] else if o.d = 0 then [] else [o.d] := by unfold iwrites; rw [if_neg (by simp [ho, hk])]
  rw [e0]
  by_cases k1 : 17 ≤ o.k
  · by_cases k2 : o.k ≤ 20
    · rw [if_pos ⟨k1, k2⟩]
      simp (maxSteps := 10000000) (disch := first | assumption | ((try simp only [push_next, put_next, adv_next, List.length_cons, List.length_nil, List.length_map, List.length_set]); omega) | simp) [encOp, Hp.rdn, GC_of (fun q => irr _ q), ho, hk, k1, k2]
      exact ⟨sz_of (r := [32, 33]) (k := []) rfl (get_push_at (by simp) (by simp)), K0.push _⟩
    · rw [if_neg (fun hh => k2 hh.2)]
      by_cases hd : o.d = 0
      · rw [if_pos hd]
        simp only [hd] at irr K0
        simp (maxSteps := 10000000) (disch := first | assumption | ((try simp only [push_next, put_next, adv_next, List.length_cons, List.length_nil, List.length_map, List.length_set]); omega) | simp) [encOp, Hp.rdn, GC_of (fun q => irr _ q), ho, hk, k1, k2, hd]
        exact ⟨sz_nil, K0⟩
      · rw [if_neg hd]
        simp (maxSteps := 10000000) (disch := first | assumption | ((try simp only [push_next, put_next, adv_next, List.length_cons, List.length_nil, List.length_map, List.length_set]); omega) | simp) [encOp, Hp.rdn, GC_of (fun q => irr _ q), ho, hk, k1, k2, hd]
        exact ⟨sz_of (r := [o.d]) (k := []) rfl (get_push_at (by simp) (by simp)), K0.push _⟩
  · rw [if_neg (fun hh => k1 hh.1)]
    by_cases hd : o.d = 0
    · rw [if_pos hd]
      simp only [hd] at irr K0
      simp (maxSteps := 10000000) (disch := first | assumption | ((try simp only [push_next, put_next, adv_next, List.length_cons, List.length_nil, List.length_map, List.length_set]); omega) | simp) [encOp, Hp.rdn, GC_of (fun q => irr _ q), ho, hk, k1, hd]
      exact ⟨sz_nil, K0⟩
    · rw [if_neg hd]
      simp (maxSteps := 10000000) (disch := first | assumption | ((try simp only [push_next, put_next, adv_next, List.length_cons, List.length_nil, List.length_map, List.length_set]); omega) | simp) [encOp, Hp.rdn, GC_of (fun q => irr _ q), ho, hk, k1, hd]
      exact ⟨sz_of (r := [o.d]) (k := []) rfl (get_push_at (by simp) (by simp)), K0.push _⟩
theorem ref_writes : WC T n_pianolaref18_Writes [.agg (encOp.enc o).toArray] h fun v h' => Sz h' v (iwrites o) ∧ Kp h h' := by
  have irr := fun (h : Hp) (q : Value → Hp → Prop) => ref_right (h := h) (q := q) (o := o)
  simp only [encOp] at irr
  have K0 : Kp h ((h.push (.cells false (encOp.enc o))).push (.cells false (encOp.enc o))) := (((Kp.refl h).push _).push _)
  simp only [encOp] at K0
  rw [w_pianolaref18_Writes]
  by_cases ho : o.ok
  case neg =>
    have e : iwrites o = [] := by unfold iwrites; rw [if_pos (.inl ho)]
    rw [e]
    simp (maxSteps := 10000000) (disch := first | assumption | ((try simp only [push_next, put_next, adv_next, List.length_cons, List.length_nil, List.length_map, List.length_set]); omega) | simp) [encOp, Hp.rdn, GC_of (fun q => irr _ q), ho]
    exact ⟨sz_nil, K0⟩
  by_cases hk : o.k = 0
  · have e : iwrites o = [] := by unfold iwrites; rw [if_pos (.inr hk)]
    rw [e]
    simp only [hk] at irr K0
    simp (maxSteps := 10000000) (disch := first | assumption | ((try simp only [push_next, put_next, adv_next, List.length_cons, List.length_nil, List.length_map, List.length_set]); omega) | simp) [encOp, Hp.rdn, GC_of (fun q => irr _ q), ho, hk]
    exact ⟨sz_nil, K0⟩
  have e0 : iwrites o = if 17 ≤ o.k ∧ o.k ≤ 20 then [32, 33] else if o.d = 0 then [] else [o.d] := by unfold iwrites; rw [if_neg (by simp [ho, hk])]
  rw [e0]
  by_cases k1 : 17 ≤ o.k
  · by_cases k2 : o.k ≤ 20
    · rw [if_pos ⟨k1, k2⟩]
      simp (maxSteps := 10000000) (disch := first | assumption | ((try simp only [push_next, put_next, adv_next, List.length_cons, List.length_nil, List.length_map, List.length_set]); omega) | simp) [encOp, Hp.rdn, GC_of (fun q => irr _ q), ho, hk, k1, k2]
      exact ⟨sz_of (r := [32, 33]) (k := []) rfl (get_push_at (by simp) (by simp)), K0.push _⟩
    · rw [if_neg (fun hh => k2 hh.2)]
      by_cases hd : o.d = 0
      · rw [if_pos hd]
        simp only [hd] at irr K0
        simp (maxSteps := 10000000) (disch := first | assumption | ((try simp only [push_next, put_next, adv_next, List.length_cons, List.length_nil, List.length_map, List.length_set]); omega) | simp) [encOp, Hp.rdn, GC_of (fun q => irr _ q), ho, hk, k1, k2, hd]
        exact ⟨sz_nil, K0⟩
      · rw [if_neg hd]
        simp (maxSteps := 10000000) (disch := first | assumption | ((try simp only [push_next, put_next, adv_next, List.length_cons, List.length_nil, List.length_map, List.length_set]); omega) | simp) [encOp, Hp.rdn, GC_of (fun q => irr _ q), ho, hk, k1, k2, hd]
        exact ⟨sz_of (r := [o.d]) (k := []) rfl (get_push_at (by simp) (by simp)), K0.push _⟩
  · rw [if_neg (fun hh => k1 hh.1)]
    by_cases hd : o.d = 0
    · rw [if_pos hd]
      simp only [hd] at irr K0
      simp (maxSteps := 10000000) (disch := first | assumption | ((try simp only [push_next, put_next, adv_next, List.length_cons, List.length_nil, List.length_map, List.length_set]); omega) | simp) [encOp, Hp.rdn, GC_of (fun q => irr _ q), ho, hk, k1, hd]
      exact ⟨sz_nil, K0⟩
    · rw [if_neg hd]
      simp (maxSteps := 10000000) (disch := first | assumption | ((try simp only [push_next, put_next, adv_next, List.length_cons, List.length_nil, List.length_map, List.length_set]); omega) | simp) [encOp, Hp.rdn, GC_of (fun q => irr _ q), ho, hk, k1, hd]
      exact ⟨sz_of (r := [o.d]) (k := []) rfl (get_push_at (by simp) (by simp)), K0.push _⟩
/-- Those of the first j cells that are in a row. -/
def srtj (l : List Int) (j : Nat) : List Int := ((List.range j).map Int.ofNat).filter fun c => decide (c ∈ l)
theorem srtj_succ (l : List Int) (j : Nat) : srtj l (j + 1) = if (j : Int) ∈ l then srtj l j ++ [(j : Int)] else srtj l j := by
  simp only [srtj, List.range_succ, List.map_append, List.filter_append, List.map_cons, List.map_nil]
  by_cases h : (j : Int) ∈ l
  · simp [h]
  · simp [h]
theorem srtj_len (l : List Int) (j : Nat) : (srtj l j).length ≤ j := by
  have := List.length_filter_le (fun c => decide (c ∈ l)) ((List.range j).map Int.ofNat)
  simpa [srtj] using this
theorem ref_sorted {a : Option Addr} {l : List Int} (hs : Sees encZ h a l) (hb : l.length < 2 ^ 63) : WC T n_pianolaref18_sorted [.slice a l.length c] h fun v h' => Sz h' v (srtd l) ∧ Kp h h' := by
  rw [w_pianolaref18_sorted]
  simp (maxSteps := 10000000) (disch := first | assumption | ((try simp only [push_next, put_next, adv_next, List.length_cons, List.length_nil, List.length_map, List.length_set]); omega) | simp)
  refine G_loop (fun n e h' => ∃ (j : Nat) (fp : List Nat), n = 40 - j ∧ j ≤ 40 ∧ Own encZ h' (e 3) (srtj l j) fp ∧ (∀ b ∈ fp, h.next ≤ b) ∧ Kp h h' ∧ e 0 = .slice a l.length c ∧ e 4 = .int .i64 j) ?_ 40 _ _ ⟨0, [], by simp, by simp, by simp [srtj]; exact .nul, by simp, .refl _, by simp, by simp⟩
  rintro n ih e h' ⟨j, fp, rfl, hj, O, hfp, K, e0, e4⟩
  by_cases h40 : j = 40
  · subst h40
    obtain ⟨a', c', hv, hs', _, _⟩ := O.len
    simp (maxSteps := 10000000) (disch := first | assumption | ((try simp only [push_next, put_next, adv_next, List.length_cons, List.length_nil, List.length_map, List.length_set]); omega) | simp) [e4]
    rw [hv]
    exact ⟨⟨a', c', rfl, hs'⟩, K⟩
  have hj2 : (j : Int) < 40 := by omega
  simp (maxSteps := 10000000) (disch := first | assumption | ((try simp only [push_next, put_next, adv_next, List.length_cons, List.length_nil, List.length_map, List.length_set]); omega) | simp) [e0, e4, hj2]
  refine G_loop (fun n e' h2 => ∃ us vs, n = vs.length ∧ l = us ++ vs ∧ h2 = h' ∧ e' 0 = .slice a l.length c ∧ e' 3 = e 3 ∧ e' 4 = .int .i64 j ∧ e' 5 = .bool (decide ((j : Int) ∈ us)) ∧ e' 6 = .int .i64 us.length) ?_ l.length _ _ ⟨[], l, rfl, rfl, rfl, by simp [e0], by simp, by simp [e4], by simp, by simp⟩
  rintro n ih2 e' h2 ⟨us, vs, rfl, hl, rfl, f0, f3, f4, f5, f6⟩
  cases vs with
  | nil =>
    have hlu : l = us := by simpa using hl
    have hll : l.length = us.length := by rw [hlu]
    by_cases hm : (j : Int) ∈ us
    · simp only [hm, decide_true] at f5
      simp (maxSteps := 10000000) (disch := first | assumption | ((try simp only [push_next, put_next, adv_next, List.length_cons, List.length_nil, List.length_map, List.length_set]); omega) | simp) [f0, f3, f4, f5, f6, hll]
      have hlen := srtj_len l j
      refine GV_app1 (E := encZ) (x := (j : Int)) O (by omega) (by omega) fun v' h3 fp' O' U => ?_
      simp (maxSteps := 10000000) (disch := first | assumption | ((try simp only [push_next, put_next, adv_next, List.length_cons, List.length_nil, List.length_map, List.length_set]); omega) | simp) [f4]
      refine ih (40 - (j + 1)) (by omega) _ _ ⟨j + 1, fp', rfl, by omega, ?_, fun b hb => ?_, U.kp' K hfp, by simp [f0, hll], by simp⟩
      · rw [srtj_succ, if_pos (by rw [hlu]; exact hm)]
        simpa using O'
      · rcases U.sub b hb with h1 | h1
        · exact hfp b h1
        · exact Nat.le_trans K.le h1
    · simp only [hm, decide_false] at f5
      simp (maxSteps := 10000000) (disch := first | assumption | ((try simp only [push_next, put_next, adv_next, List.length_cons, List.length_nil, List.length_map, List.length_set]); omega) | simp) [f0, f3, f4, f5, f6, hll]
      refine ih (40 - (j + 1)) (by omega) _ _ ⟨j + 1, fp, rfl, by omega, ?_, hfp, K, by simp [f0, hll], by simp⟩
      rw [srtj_succ, if_neg (by rw [hlu]; exact hm)]
      simpa [f3] using O
  | cons x vs =>
    have hlt : us.length < l.length := by rw [hl]; simp
    have hlt' : (us.length : Int) < l.length := by omega
    obtain ⟨A, ro, C, rfl, g1, k1⟩ := Sees.cell (f := fun n => Value.int .i64 n) (fun _ => rfl) rfl (us := us) (x := x) (vs := vs) (by rw [← hl]; exact hs.kp K)
    by_cases hm : (j : Int) ∈ us
    · simp only [hm, decide_true] at f5
      simp (maxSteps := 10000000) (disch := first | assumption | ((try simp only [push_next, put_next, adv_next, List.length_cons, List.length_nil, List.length_map, List.length_set]); omega) | simp) [f0, f3, f4, f5, f6, hlt', g1, k1]
      refine ih2 vs.length (by simp) _ _ ⟨us ++ [x], vs, rfl, by simp [hl], rfl, by simp [f0], by simp [f3], by simp [f4], by simp [hm], by simp⟩
    · simp only [hm, decide_false] at f5
      simp (maxSteps := 10000000) (disch := first | assumption | ((try simp only [push_next, put_next, adv_next, List.length_cons, List.length_nil, List.length_map, List.length_set]); omega) | simp) [f0, f3, f4, f5, f6, hlt', g1, k1]
      refine ih2 vs.length (by simp) _ _ ⟨us ++ [x], vs, rfl, by simp [hl], rfl, by simp [f0], by simp [f3], by simp [f4], ?_, by simp⟩
      simp [hm, eq_comm]
end
end Go.Proofs.Ytjobkhnanbkcjaa.Cd

/- Are two rows the same? -/
set_option maxRecDepth 1000000
set_option linter.unusedSimpArgs false
set_option linter.unusedVariables false
namespace Go.Proofs.Ytjobkhnanbkcjaa.Cd
open Go Go.Dx
theorem same_u32 {h : Hp} {q : Value → Hp → Prop} {a a' : Option Addr} {c c' : Nat} {xs ys : List (BitVec 32)} (hx : Sees encW h a xs) (hy : Sees encW h a' ys) (hb : xs.length < 2 ^ 63) : WC T n_pianolabook_Same_uint32 [.slice a xs.length c, .slice a' ys.length c'] h q ↔ q (.bool (decide (xs = ys))) h := by
  refine WC_iff ?_ q
  rw [w_pianolabook_Same_uint32]
  by_cases hl : xs.length = ys.length
  case neg =>
    have hne : xs ≠ ys := fun e => hl (by rw [e])
    have hl' : ¬ ((xs.length : Int) = ys.length) := by omega
    simp (maxSteps := 10000000) (disch := first | assumption | ((try simp only [push_next, put_next, adv_next, List.length_cons, List.length_nil, List.length_map, List.length_set]); omega) | simp) [hl', hne]
  simp (maxSteps := 10000000) (disch := first | assumption | ((try simp only [push_next, put_next, adv_next, List.length_cons, List.length_nil, List.length_map, List.length_set]); omega) | simp) [hl]
  refine G_loop (fun n e h' => ∃ us vs ws, n = vs.length ∧ h' = h ∧ xs = us ++ vs ∧ ys = us ++ ws ∧ e 0 = .slice a xs.length c ∧ e 1 = .slice a' ys.length c' ∧ e 5 = .int .i64 us.length) ?_ xs.length _ _ ⟨[], xs, ys, rfl, rfl, rfl, rfl, by simp [hl], by simp, by simp⟩
  rintro n ih e h' ⟨us, vs, ws, rfl, rfl, h1, h2, e0, e1, e5⟩
  cases vs with
  | nil =>
    have hw : ws = [] := by
      have h3 := hl
      rw [h1, h2] at h3
      simpa using h3
    subst hw
    have hxs : xs = us := by simpa using h1
    have hxy : xs = ys := by rw [h1, h2]
    have hll : us.length = xs.length := by rw [hxs]
    simp (maxSteps := 10000000) (disch := first | assumption | ((try simp only [push_next, put_next, adv_next, List.length_cons, List.length_nil, List.length_map, List.length_set]); omega) | simp) [e0, e5, hll, hxy]
  | cons x vs =>
    cases ws with
    | nil =>
      have h3 := hl
      rw [h1, h2] at h3
      simp at h3
    | cons y ws =>
      have hlt : (us.length : Int) < xs.length := by rw [h1]; simp; omega
      have hlt' : (us.length : Int) < ys.length := by omega
      obtain ⟨A, ro, C, hA, g1, k1⟩ := Sees.cell (f := u32) (fun _ => rfl) rfl (us := us) (x := x) (vs := vs) (by rw [← h1]; exact hx)
      obtain ⟨A', ro', C', hA', g2, k2⟩ := Sees.cell (f := u32) (fun _ => rfl) rfl (us := us) (x := y) (vs := ws) (by rw [← h2]; exact hy)
      by_cases hxy : x = y
      · simp (maxSteps := 10000000) (disch := first | assumption | ((try simp only [push_next, put_next, adv_next, List.length_cons, List.length_nil, List.length_map, List.length_set]); omega) | simp) [e0, e1, e5, hlt, hlt', hA, hA', g1, g2, k1, k2, hxy]
        apply ih vs.length (by simp)
        refine ⟨us ++ [x], vs, ws, rfl, rfl, by simp [h1], by simp [h2, hxy], by simp [e0, hA], by simp [e1, hA'], by simp⟩
      · have hne : xs ≠ ys := fun e => by rw [h1, h2] at e; simp [hxy] at e
        simp (maxSteps := 10000000) (disch := first | assumption | ((try simp only [push_next, put_next, adv_next, List.length_cons, List.length_nil, List.length_map, List.length_set]); omega) | simp) [e0, e1, e5, hlt, hlt', hA, hA', g1, g2, k1, k2, hxy, hne]
end Go.Proofs.Ytjobkhnanbkcjaa.Cd

/- Small operations: what the laws' own functions do. -/
set_option maxRecDepth 1000000
set_option maxHeartbeats 8000000
set_option linter.unusedSimpArgs false
set_option linter.unusedVariables false
namespace Go.Proofs.Ytjobkhnanbkcjaa.Cd
open Go Go.Dx
section
variable {h : Hp} {q : Value → Hp → Prop} {b c : Nat} {x y z : Int} {o : IOp}
theorem sees_blk {l : List Int} {ro : Bool} (hg : h.get b = some (.cells ro (l.map (Value.int .i64)))) : Sees encZ h (some ⟨b, 0, none⟩) l := ⟨fun hA => (by cases hA), fun A hA => by
  cases hA
  simp only [Hp.rdn, Hp.cells, hg, Option.bind_some, Nat.zero_add, encZ_sz, Nat.mul_one]
  rw [if_pos (by simp), encZ_all, List.drop_zero, List.take_of_length_le (by simp)], fun A hA => (by cases hA; exact .inl rfl)⟩
theorem veq_op {k d a b : Int} {w : BitVec 32} : veq (.agg #[.int .i64 k, .int .i64 d, .int .i64 a, .int .i64 b, u32 w]) (.agg #[.int .i64 k, .int .i64 d, .int .i64 a, .int .i64 b, u32 w]) = true := by
  simp [veq, veqF, veqL, u32]
theorem ref_reads : WC T n_pianolaref18_Reads [.agg (encOp.enc o).toArray] h fun v h' => Sz h' v (ireads o) ∧ Kp h h' := by
  have irr := fun (h : Hp) (q : Value → Hp → Prop) => ref_right (h := h) (q := q) (o := o)
  simp only [encOp] at irr
  have K0 : Kp h ((h.push (.cells false (encOp.enc o))).push (.cells false (encOp.enc o))) := (((Kp.refl h).push _).push _)
  simp only [encOp] at K0
  rw [w_pianolaref18_Reads]
  by_cases ho : o.ok
  case neg =>
    have e : ireads o = [] := by unfold ireads; rw [if_pos (.inl ho)]
    rw [e]
    simp (maxSteps := 10000000) (disch := first | assumption | ((try simp only [push_next, put_next, adv_next, List.length_cons, List.length_nil, List.length_map, List.length_set]); omega) | simp) [encOp, Hp.rdn, GC_of (fun q => irr _ q), ho]
    exact ⟨sz_nil, K0⟩
  have ho' := ho
  obtain ⟨⟨d0, d1⟩, ⟨a0, a1⟩, ⟨b0, b1⟩, k0, k1⟩ := ho'
  by_cases hk : o.k ≤ 1
  · have e : ireads o = [] := by unfold ireads; rw [if_pos (.inr (by omega))]
    rw [e]
    simp (maxSteps := 10000000) (disch := first | assumption | ((try simp only [push_next, put_next, adv_next, List.length_cons, List.length_nil, List.length_map, List.length_set]); omega) | simp) [encOp, Hp.rdn, GC_of (fun q => irr _ q), ho, hk]
    exact ⟨sz_nil, K0⟩
  have h3 : ¬ (¬ o.ok ∨ o.k = 0 ∨ o.k = 1) := by simp [ho]; omega
  have e0 : ireads o = if o.k = 2 ∨ o.k = 15 ∨ o.k = 16 then srtd [o.a] else if o.k = 21 ∨ o.k = 22 then srtd [o.a, o.b, o.d] else srtd [o.a, o.b] := by unfold ireads; rw [if_neg h3]
  by_cases hk1 : o.k = 2 ∨ o.k = 15 ∨ o.k = 16
  · rw [e0, if_pos hk1]
    rcases hk1 with hk1 | hk1 | hk1 <;>
    · simp only [hk1] at irr K0
      simp (maxSteps := 10000000) (disch := first | assumption | ((try simp only [push_next, put_next, adv_next, List.length_cons, List.length_nil, List.length_map, List.length_set]); omega) | simp) [encOp, Hp.rdn, GC_of (fun q => irr _ q), ho, hk1]
      refine GC_intro (ref_sorted (l := [o.a]) (sees_blk (ro := false) (get_push_at (by simp) (by simp))) (by simp)) fun v h2 ⟨hz, K⟩ => ?_
      simp (maxSteps := 10000000) (disch := first | assumption | ((try simp only [push_next, put_next, adv_next, List.length_cons, List.length_nil, List.length_map, List.length_set]); omega) | simp)
      exact ⟨hz, (K0.push _).trans K⟩
  have hk1' : o.k ≠ 2 ∧ o.k ≠ 15 ∧ o.k ≠ 16 := by omega
  by_cases hk2 : 21 ≤ o.k
  · rw [e0, if_neg hk1, if_pos (by omega)]
    simp (maxSteps := 10000000) (disch := first | assumption | ((try simp only [push_next, put_next, adv_next, List.length_cons, List.length_nil, List.length_map, List.length_set]); omega) | simp) [encOp, Hp.rdn, GC_of (fun q => irr _ q), ho, hk, hk1', hk2]
    refine GC_intro (ref_sorted (l := [o.a, o.b, o.d]) (sees_blk (ro := false) (get_push_at (by simp) (by simp))) (by simp)) fun v h2 ⟨hz, K⟩ => ?_
    simp (maxSteps := 10000000) (disch := first | assumption | ((try simp only [push_next, put_next, adv_next, List.length_cons, List.length_nil, List.length_map, List.length_set]); omega) | simp)
    exact ⟨hz, (K0.push _).trans K⟩
  · rw [e0, if_neg hk1, if_neg (by omega)]
    simp (maxSteps := 10000000) (disch := first | assumption | ((try simp only [push_next, put_next, adv_next, List.length_cons, List.length_nil, List.length_map, List.length_set]); omega) | simp) [encOp, Hp.rdn, GC_of (fun q => irr _ q), ho, hk, hk1', hk2]
    refine GC_intro (ref_sorted (l := [o.a, o.b]) (sees_blk (ro := false) (get_push_at (by simp) (by simp))) (by simp)) fun v h2 ⟨hz, K⟩ => ?_
    simp (maxSteps := 10000000) (disch := first | assumption | ((try simp only [push_next, put_next, adv_next, List.length_cons, List.length_nil, List.length_map, List.length_set]); omega) | simp)
    exact ⟨hz, (K0.push _).trans K⟩
theorem iwrites_len (o : IOp) : (iwrites o).length < 2 ^ 63 := by
  unfold iwrites
  split
  · simp
  · split
    · simp
    · split <;> simp
theorem srtd_len (l : List Int) : (srtd l).length < 2 ^ 63 := by
  have := List.length_filter_le (fun c => decide (c ∈ l)) ((List.range 40).map Int.ofNat)
  simp at this
  simp only [srtd]
  omega
theorem ireads_len (o : IOp) : (ireads o).length < 2 ^ 63 := by
  unfold ireads
  split
  · simp
  · split
    · exact srtd_len _
    · split <;> exact srtd_len _
theorem tells : WC T n_pianolalaw18_tells [.agg (encOp.enc o).toArray] h fun v h' => v = .bool true ∧ Kp h h' := by
  have irr := fun (h : Hp) (q : Value → Hp → Prop) => ir_right (h := h) (q := q) (o := o)
  have irr2 := fun (h : Hp) (q : Value → Hp → Prop) => ref_right (h := h) (q := q) (o := o)
  simp only [encOp] at irr irr2
  have K0 : Kp h ((((h.push (.cells false (encOp.enc o))).push (.cells false (encOp.enc o))).push (.cells false [.int .i64 o.d, .int .i64 o.a, .int .i64 o.b])).push (.cells false (encOp.enc o))) := (((((Kp.refl h).push _).push _).push _).push _)
  simp only [encOp] at K0
  rw [w_pianolalaw18_tells]
  simp (maxSteps := 10000000) (disch := first | assumption | ((try simp only [push_next, put_next, adv_next, List.length_cons, List.length_nil, List.length_map, List.length_set]); omega) | simp) [encOp, Hp.rdn, veq_op, GC_of (fun q => irr _ q), GCI_of (fun q => irr _ q), GC_of (fun q => irr2 _ q), GCI_of (fun q => irr2 _ q)]
  generalize hH : (((h.push (.cells false [.int .i64 o.k, .int .i64 o.d, .int .i64 o.a, .int .i64 o.b, u32 o.imm])).push (.cells false [.int .i64 o.k, .int .i64 o.d, .int .i64 o.a, .int .i64 o.b, u32 o.imm])).push (.cells false [.int .i64 o.d, .int .i64 o.a, .int .i64 o.b])).push (.cells false [.int .i64 o.k, .int .i64 o.d, .int .i64 o.a, .int .i64 o.b, u32 o.imm]) = H at *
  have y0 : H.get h.next = some (.cells false [.int .i64 o.k, .int .i64 o.d, .int .i64 o.a, .int .i64 o.b, u32 o.imm]) := by
    rw [← hH, get_push_ne (by simp; omega), get_push_ne (by simp; omega), get_push_ne (by simp), get_push_self]
  have hlt := lt_of_get y0
  refine GCI_intro ir_reads fun v1 h1 ⟨s1, K1⟩ => ?_
  have y1 : h1.get h.next = _ := (K1.get _ hlt).trans y0
  have hlt1 := lt_of_get y1
  simp (maxSteps := 10000000) (disch := first | assumption | ((try simp only [push_next, put_next, adv_next, List.length_cons, List.length_nil, List.length_map, List.length_set]); omega) | simp) [y1, Hp.rdn, veq_op]
  refine GCI_intro ref_reads fun v2 h2 ⟨s2, K2⟩ => ?_
  have y2 : h2.get h.next = _ := (K2.get _ hlt1).trans y1
  have hlt2 := lt_of_get y2
  obtain ⟨a1, c1, rfl, s1⟩ := s1
  obtain ⟨a2, c2, rfl, s2⟩ := s2
  simp (maxSteps := 10000000) (disch := first | assumption | ((try simp only [push_next, put_next, adv_next, List.length_cons, List.length_nil, List.length_map, List.length_set]); omega) | simp) [GCI_of (fun q => same_int (s1.kp K2) s2 (ireads_len o)), y2, Hp.rdn, veq_op]
  refine GCI_intro ir_writes fun v3 h3 ⟨s3, K3⟩ => ?_
  have y3 : h3.get h.next = _ := (K3.get _ hlt2).trans y2
  have hlt3 := lt_of_get y3
  simp (maxSteps := 10000000) (disch := first | assumption | ((try simp only [push_next, put_next, adv_next, List.length_cons, List.length_nil, List.length_map, List.length_set]); omega) | simp) [y3, Hp.rdn, veq_op]
  refine GCI_intro ref_writes fun v4 h4 ⟨s4, K4⟩ => ?_
  obtain ⟨a3, c3, rfl, s3⟩ := s3
  obtain ⟨a4, c4, rfl, s4⟩ := s4
  simp (maxSteps := 10000000) (disch := first | assumption | ((try simp only [push_next, put_next, adv_next, List.length_cons, List.length_nil, List.length_map, List.length_set]); omega) | simp) [GCI_of (fun q => same_int (s3.kp K4) s4 (iwrites_len o))]
  exact (((K0.trans K1).trans K2).trans K3).trans K4
end
end Go.Proofs.Ytjobkhnanbkcjaa.Cd

/- Small operations: rows of cells, what the program and the document leave in them. -/
set_option maxRecDepth 1000000
set_option maxHeartbeats 8000000
set_option linter.unusedSimpArgs false
set_option linter.unusedVariables false
namespace Go.Proofs.Ytjobkhnanbkcjaa.Cd
open Go Go.Dx
section
variable {h : Hp} {q : Value → Hp → Prop} {b c c' : Nat} {o : IOp} {a a' : Option Addr} {l : List (BitVec 32)} {L : List IOp} {R : Regs} {cp : Nat}
theorem regs_of (hs : Sees encW h a l) (hb : l.length < 2 ^ 63) : WC T n_pianolalaw18_regs [.slice a l.length c] h fun v h' => v = .agg ((rgs l).map u32).toArray ∧ Kp h h' := by
  rw [w_pianolalaw18_regs]
  simp (maxSteps := 10000000) (disch := first | assumption | ((try simp only [push_next, put_next, adv_next, List.length_cons, List.length_nil, List.length_map, List.length_set]); omega) | simp) [-List.reduceReplicate]
  have z1 : List.replicate 40 (u32 0#32) = (rgsj l 1).map u32 := by rw [rgsj_one, List.map_replicate]
  rw [z1]
  refine G_loop (fun n e h' => ∃ j : Nat, n = 40 - j ∧ 1 ≤ j ∧ j ≤ 40 ∧ Kp h h' ∧ h'.get h.next = some (.cells false ((rgsj l 1).map u32)) ∧ h'.get (h.next + 1) = some (.cells false ((rgsj l j).map u32)) ∧ e 0 = .slice a l.length c ∧ e 2 = ptr h.next 0 ∧ e 3 = ptr (h.next + 1) 0 ∧ e 4 = .int .i64 j) ?_ 39 _ _ ⟨1, rfl, by omega, by omega, (((Kp.refl h).push _).push _), ?_, ?_, by simp, by simp, by simp, by simp⟩
  case refine_2 => rw [get_push_ne (by simp), get_push_self]
  case refine_3 => exact get_push_self (h := h.push _)
  rintro n ih e h' ⟨j, rfl, h1, hj, K, g0, g1, e0, e2, e3, e4⟩
  have hlt := lt_of_get g1
  have done : rgsj l j = rgs l → h'.rdn (h.next + 1) 0 40 = some ((rgs l).map u32) ∧ h'.wr h.next 0 ((rgs l).map u32) = some (h'.put h.next (some (.cells false ((rgs l).map u32)))) ∧ (h'.put h.next (some (.cells false ((rgs l).map u32)))).rdn h.next 0 40 = some ((rgs l).map u32) := by
    intro hr
    rw [hr] at g1
    exact ⟨rdn_all (n := 40) g1 (by simp), wr_all (vs := (rgs l).map u32) g0 (by simp) (all_u32 _), rdn_all (ro := false) (get_put_self (by omega)) (by simp)⟩
  by_cases h40 : j = 40
  · subst h40
    obtain ⟨r1, w1, r2⟩ := done rfl
    simp (maxSteps := 10000000) (disch := first | assumption | ((try simp only [push_next, put_next, adv_next, List.length_cons, List.length_nil, List.length_map, List.length_set]); omega) | simp) [e2, e3, e4, r1, w1, r2, -Hp.wr]
    exact K.put (Nat.le_refl _) _
  have hj2 : (j : Int) < 40 := by omega
  have hj3 : j ≤ 39 := by omega
  by_cases hl : j < l.length
  case neg =>
    have hl' : ¬ ((j : Int) < l.length) := by omega
    obtain ⟨r1, w1, r2⟩ := done (rgsj_end (by omega))
    simp (maxSteps := 10000000) (disch := first | assumption | ((try simp only [push_next, put_next, adv_next, List.length_cons, List.length_nil, List.length_map, List.length_set]); omega) | simp) [e0, e2, e3, e4, hj2, hl, hl', r1, w1, r2, -Hp.wr]
    exact K.put (Nat.le_refl _) _
  have hl' : (j : Int) < l.length := by omega
  obtain ⟨us, x, vs, hx, hu⟩ : ∃ us x vs, l = us ++ x :: vs ∧ us.length = j := ⟨l.take j, l[j], l.drop (j + 1), by simp, by simp; omega⟩
  obtain ⟨A, ro, C, rfl, k1, k2⟩ := Sees.cell (f := u32) (fun _ => rfl) rfl (us := us) (x := x) (vs := vs) (by rw [← hx]; exact hs.kp K)
  rw [hu] at k2
  have hxj : l[j]? = some x := by rw [hx, ← hu]; simp
  have o1 := fun (l : List Value) n v => over_set (l := l) (i := n) (v := v)
  simp (maxSteps := 10000000) (disch := first | assumption | ((try simp only [push_next, put_next, adv_next, List.length_cons, List.length_nil, List.length_map, List.length_set]); omega) | simp) [e0, e3, e4, hj2, hj3, hl, hl', k1, k2, g1, -over, o1]
  refine ih (40 - (j + 1)) (by omega) _ _ ⟨j + 1, rfl, by omega, by omega, K.put (by omega) _, ?_, ?_, by simp [e0], by simp [e2], by simp [e3], by simp⟩
  · rw [get_put_ne (by omega), g0]
  · rw [get_put_self hlt, ← rgsj_set h1 (by omega) hxj, List.map_set]
theorem ref_run (hR : R.length = 40) (hg : h.get b = some (.cells false (R.map u32))) (hs : Sees encOp h a L) (hac : ∀ A, a = some A → A.block ≠ b) (hb : L.length < 2 ^ 63)
    (hq : ∀ h', h'.get b = some (.cells false ((if oks L then irun R L else R).map u32)) → Upd h h' [b] [b] → q (.bool (decide (oks L))) h') : WC T n_pianolaref18_Run [.slice (some ⟨b, 0, none⟩) 40 cp, .slice a L.length c] h q := by
  have hlt := lt_of_get hg
  have irr := fun (h : Hp) (q : Value → Hp → Prop) (o : IOp) => ref_right (h := h) (q := q) (o := o)
  simp only [encOp] at irr
  rw [w_pianolaref18_Run]
  simp (maxSteps := 10000000) (disch := first | assumption | ((try simp only [push_next, put_next, adv_next, List.length_cons, List.length_nil, List.length_map, List.length_set]); omega) | simp)
  refine G_loop (fun n e h' => ∃ us vs, n = vs.length ∧ L = us ++ vs ∧ (∀ o ∈ us, o.ok) ∧ Kp h h' ∧ e 0 = .slice (some ⟨b, 0, none⟩) 40 cp ∧ e 1 = .slice a L.length c ∧ e 5 = .int .i64 us.length) ?_ L.length _ _ ⟨[], L, rfl, rfl, by simp, .refl _, by simp, by simp, by simp⟩
  rintro n ih e h' ⟨us, vs, rfl, hx, hu, K, e0, e1, e5⟩
  cases vs with
  | cons o vs =>
    have hl : us.length < L.length := by rw [hx]; simp
    have hl' : (us.length : Int) < L.length := by omega
    obtain ⟨A, rfl, hr⟩ := Sees.mid (A := us) (x := o) (B := vs) (by rw [← hx]; exact hs.kp K)
    have hr' : h'.rdn A.block (A.off + us.length * 5) 5 = some [.int .i64 o.k, .int .i64 o.d, .int .i64 o.a, .int .i64 o.b, u32 o.imm] := hr
    by_cases ho : o.ok
    · simp (maxSteps := 10000000) (disch := first | assumption | ((try simp only [push_next, put_next, adv_next, List.length_cons, List.length_nil, List.length_map, List.length_set]); omega) | simp) [e0, e1, e5, hl', hr', GC_of (fun q => irr _ q _), ho]
      refine ih vs.length (by simp) _ _ ⟨us ++ [o], vs, rfl, by simp [hx], fun x hx => ?_, K.push _, by simp [e0], by simp [e1], by simp⟩
      rcases List.mem_append.1 hx with h1 | h1
      · exact hu x h1
      · simp at h1; subst h1; exact ho
    · simp (maxSteps := 10000000) (disch := first | assumption | ((try simp only [push_next, put_next, adv_next, List.length_cons, List.length_nil, List.length_map, List.length_set]); omega) | simp) [e0, e1, e5, hl', hr', GC_of (fun q => irr _ q _), ho]
      have hn : ¬ oks L := fun hh => ho (hh o (by rw [hx]; simp))
      have := hq (h'.push (.cells false [.int .i64 o.k, .int .i64 o.d, .int .i64 o.a, .int .i64 o.b, u32 o.imm])) (by rw [if_neg hn, (K.push _).get b hlt, hg]) ((K.push _).upd _)
      simpa [hn] using this
  | nil =>
    have hL : L = us := by simpa using hx
    have hl : L.length = us.length := by rw [hL]
    have hok : oks L := by rw [hL]; exact hu
    rw [if_pos hok] at hq
    simp only [hok, decide_true] at hq
    simp (maxSteps := 10000000) (disch := first | assumption | ((try simp only [push_next, put_next, adv_next, List.length_cons, List.length_nil, List.length_map, List.length_set]); omega) | simp) [e0, e1, e5, hl]
    have hg' : h'.get b = some (.cells false (R.map u32)) := by rw [K.get b hlt, hg]
    refine G_loop (fun n e h2 => ∃ us vs, n = vs.length ∧ L = us ++ vs ∧ Upd h h2 [b] [b] ∧ h2.get b = some (.cells false ((irun R us).map u32)) ∧ e 0 = .slice (some ⟨b, 0, none⟩) 40 cp ∧ e 1 = .slice a L.length c ∧ e 6 = .int .i64 us.length) ?_ L.length _ _ ⟨[], L, rfl, rfl, K.upd _, by simpa using hg', by simp [e0], by simp [e1, hl], by simp⟩
    clear ih e0 e1 e5 K hg' hx hu
    rintro n ih e h2 ⟨us, vs, rfl, hx, U, hg2, e0, e1, e6⟩
    cases vs with
    | nil =>
      have hL : L = us := by simpa using hx
      have hl : L.length = us.length := by rw [hL]
      simp (maxSteps := 10000000) (disch := first | assumption | ((try simp only [push_next, put_next, adv_next, List.length_cons, List.length_nil, List.length_map, List.length_set]); omega) | simp) [e0, e1, e6, hl]
      exact hq _ (by rw [hg2, hL]) U
    | cons o vs =>
      have hl : us.length < L.length := by rw [hx]; simp
      have hl' : (us.length : Int) < L.length := by omega
      obtain ⟨A, rfl, hr⟩ := Sees.mid (A := us) (x := o) (B := vs) (by rw [← hx]; exact hs)
      have hr' : h2.rdn A.block (A.off + us.length * 5) 5 = some [.int .i64 o.k, .int .i64 o.d, .int .i64 o.a, .int .i64 o.b, u32 o.imm] := rdn_kp hr (U.get _ (lt_of_rdn hr) (by simpa using hac A rfl))
      simp (maxSteps := 10000000) (disch := first | assumption | ((try simp only [push_next, put_next, adv_next, List.length_cons, List.length_nil, List.length_map, List.length_set]); omega) | simp) [e0, e1, e6, hl', hr']
      refine GC_intro (ref_one (o := o) (q := fun v h3 => h3.get b = some (.cells false ((ido (irun R us) o).map u32)) ∧ Upd h2 h3 [b] [b]) (hok o (by rw [hx]; simp)) (by simp [hR]) hg2 (fun h3 g3 u3 => ⟨g3, u3⟩)) fun v h3 ⟨g3, u3⟩ => ?_
      simp (maxSteps := 10000000) (disch := first | assumption | ((try simp only [push_next, put_next, adv_next, List.length_cons, List.length_nil, List.length_map, List.length_set]); omega) | simp) [e6]
      refine ih vs.length (by simp) _ _ ⟨us ++ [o], vs, rfl, by rw [hx]; simp, U.trans u3, ?_, by simp [e0], by simp [e1], by simp⟩
      rw [g3, irun_append]
      rfl
end
end Go.Proofs.Ytjobkhnanbkcjaa.Cd

/- Small operations: the laws' runs. -/
set_option maxRecDepth 1000000
set_option maxHeartbeats 8000000
set_option linter.unusedSimpArgs false
set_option linter.unusedVariables false
namespace Go.Proofs.Ytjobkhnanbkcjaa.Cd
open Go Go.Dx
section
variable {h : Hp} {q : Value → Hp → Prop} {b c c' : Nat} {o : IOp} {a a' : Option Addr} {l : List (BitVec 32)} {L : List IOp} {R : Regs} {cp : Nat}
theorem within_eq {n lo hi : Int} (h0 : -1000000000000000 ≤ lo) (h1 : lo ≤ hi) (h2 : hi ≤ 4000000000000000000) : WC T n_pianolabook_Within [.int .i64 n, .int .i64 lo, .int .i64 hi] h q ↔ q (.int .i64 (wi n lo hi)) h := by
  rw [w_pianolabook_Within]
  have hne : hi - lo + 1 ≠ 0 := by omega
  have he := tmod_emod (n := n) (m := hi - lo + 1) (by omega)
  have hw : n.tmod (hi - lo + 1) < hi - lo + 1 := Int.tmod_lt_of_pos _ (by omega)
  have hw' : - (hi - lo + 1) < n.tmod (hi - lo + 1) := by
    have := Int.tmod_lt_of_pos (-n) (show 0 < hi - lo + 1 by omega)
    rw [Int.neg_tmod] at this
    omega
  unfold wi
  by_cases c1 : lo ≤ n
  · by_cases c2 : n ≤ hi
    · simp (maxSteps := 10000000) (disch := first | assumption | ((try simp only [push_next, put_next, adv_next, List.length_cons, List.length_nil, List.length_map, List.length_set]); omega) | simp) [c1, c2]
    · by_cases c3 : n.tmod (hi - lo + 1) < 0
      · simp (maxSteps := 10000000) (disch := first | assumption | ((try simp only [push_next, put_next, adv_next, List.length_cons, List.length_nil, List.length_map, List.length_set]); omega) | simp) [c1, c2, c3, hne]
        rw [he, if_pos c3]
        have e : lo + (n.tmod (hi - lo + 1) + hi - lo + 1) = lo + (n.tmod (hi - lo + 1) + (hi - lo + 1)) := by omega
        rw [e]
      · simp (maxSteps := 10000000) (disch := first | assumption | ((try simp only [push_next, put_next, adv_next, List.length_cons, List.length_nil, List.length_map, List.length_set]); omega) | simp) [c1, c2, c3, hne]
        rw [he, if_neg c3]
  · by_cases c3 : n.tmod (hi - lo + 1) < 0
    · simp (maxSteps := 10000000) (disch := first | assumption | ((try simp only [push_next, put_next, adv_next, List.length_cons, List.length_nil, List.length_map, List.length_set]); omega) | simp) [c1, c3, hne]
      rw [he, if_pos c3]
      have e : lo + (n.tmod (hi - lo + 1) + hi - lo + 1) = lo + (n.tmod (hi - lo + 1) + (hi - lo + 1)) := by omega
      rw [e]
    · simp (maxSteps := 10000000) (disch := first | assumption | ((try simp only [push_next, put_next, adv_next, List.length_cons, List.length_nil, List.length_map, List.length_set]); omega) | simp) [c1, c3, hne]
      rw [he, if_neg c3]
theorem sees_w {l : List (BitVec 32)} {ro : Bool} (hg : h.get b = some (.cells ro (l.map u32))) : Sees encW h (some ⟨b, 0, none⟩) l := ⟨fun hA => (by cases hA), fun A hA => by
  cases hA
  simp only [Hp.rdn, Hp.cells, hg, Option.bind_some, Nat.zero_add, encW_sz, Nat.mul_one]
  rw [if_pos (by simp), encW_all, List.drop_zero, List.take_of_length_le (by simp)], fun A hA => (by cases hA; exact .inl rfl)⟩
theorem runs (hs : Sees encW h a l) (hb : l.length < 2 ^ 63) (hL : Sees encOp h a' L) (hb' : L.length < 2 ^ 63) : WC T n_pianolalaw18_runs [.slice a l.length c, .slice a' L.length c'] h fun v h' => v = .bool true ∧ Kp h h' := by
  rw [w_pianolalaw18_runs]
  simp (maxSteps := 10000000) (disch := first | assumption | ((try simp only [push_next, put_next, adv_next, List.length_cons, List.length_nil, List.length_map, List.length_set]); omega) | simp)
  refine GC_intro (regs_of hs hb) fun v h1 ⟨hv, K1⟩ => ?_
  subst hv
  simp (maxSteps := 10000000) (disch := first | assumption | ((try simp only [push_next, put_next, adv_next, List.length_cons, List.length_nil, List.length_map, List.length_set]); omega) | simp) [-List.reduceReplicate, -Hp.wr, all_u32]
  generalize hH1 : h1.push (.cells false ((rgs l).map u32)) = H1
  have g1 : H1.get h1.next = some (.cells false ((rgs l).map u32)) := by rw [← hH1, get_push_self]
  have KH1 : Kp h H1 := by rw [← hH1]; exact K1.push _
  have l1 := lt_of_get g1
  refine GC_intro (regs_of (hs.kp KH1) hb) fun v h2 ⟨hv, K2⟩ => ?_
  subst hv
  simp (maxSteps := 10000000) (disch := first | assumption | ((try simp only [push_next, put_next, adv_next, List.length_cons, List.length_nil, List.length_map, List.length_set]); omega) | simp) [-List.reduceReplicate, -Hp.wr, all_u32]
  generalize hH2 : h2.push (.cells false ((rgs l).map u32)) = H2
  have g2 : H2.get h2.next = some (.cells false ((rgs l).map u32)) := by rw [← hH2, get_push_self]
  have KH2 : Kp H1 H2 := by rw [← hH2]; exact K2.push _
  have l2 := lt_of_get g2
  have n12 : h1.next < h2.next := Nat.lt_of_lt_of_le l1 K2.le
  have g12 : H2.get h1.next = some (.cells false ((rgs l).map u32)) := (KH2.get _ l1).trans g1
  have hLa : ∀ A, a' = some A → A.block < h.next := fun A hA => lt_of_rdn (hL.get A hA)
  have KH : Kp h H2 := KH1.trans KH2
  have nh := K1.le
  refine GC_intro (ir_run (q := fun v h3 => v = .bool (decide (oks L)) ∧ h3.get h1.next = some (.cells false ((if oks L then irun (rgs l) L else rgs l).map u32)) ∧ Upd H2 h3 [h1.next] [h1.next]) (rgs_length l) g12 (hL.kp KH) (fun A hA => by have := hLa A hA; omega) hb' fun h3 g3 u3 => ⟨rfl, by rw [g3, set_zero (rgs_zero l)], u3⟩) fun v h3 ⟨hv, g3, u3⟩ => ?_
  subst hv
  simp (maxSteps := 10000000) (disch := first | assumption | ((try simp only [push_next, put_next, adv_next, List.length_cons, List.length_nil, List.length_map, List.length_set]); omega) | simp)
  have g32 : h3.get h2.next = some (.cells false ((rgs l).map u32)) := by rw [u3.get _ l2 (by simp; omega), g2]
  have hL3 : Sees encOp h3 a' L := (hL.kp KH).upd u3 (fun A hA => by have := hLa A hA; simp; omega)
  refine GC_intro (ref_run (q := fun v h4 => v = .bool (decide (oks L)) ∧ h4.get h2.next = some (.cells false ((if oks L then irun (rgs l) L else rgs l).map u32)) ∧ Upd h3 h4 [h2.next] [h2.next]) (rgs_length l) g32 hL3 (fun A hA => by have := hLa A hA; omega) hb' fun h4 g4 u4 => ⟨rfl, g4, u4⟩) fun v h4 ⟨hv, g4, u4⟩ => ?_
  subst hv
  have g41 : h4.get h1.next = some (.cells false ((if oks L then irun (rgs l) L else rgs l).map u32)) := by rw [u4.get _ (lt_of_get g3) (by simp; omega), g3]
  simp (maxSteps := 10000000) (disch := first | assumption | ((try simp only [push_next, put_next, adv_next, List.length_cons, List.length_nil, List.length_map, List.length_set]); omega) | simp)
  generalize hX : (if oks L then irun (rgs l) L else rgs l) = X at g4 g41
  have hXl : X.length = 40 := by rw [← hX]; split <;> simp
  have same := fun q => same_u32 (q := q) (c := 40) (c' := 40) (sees_w g41) (sees_w g4) (by omega)
  rw [hXl] at same
  simp (maxSteps := 10000000) (disch := first | assumption | ((try simp only [push_next, put_next, adv_next, List.length_cons, List.length_nil, List.length_map, List.length_set]); omega) | simp) [GC_of same]
  exact ⟨Nat.le_trans KH.le (Nat.le_trans u3.le u4.le), fun k hk => by rw [u4.get _ (by have := KH.le; have := u3.le; omega) (by simp; omega), u3.get _ (by have := KH.le; omega) (by simp; omega), KH.get _ hk]⟩
theorem run_nil : WC T n_ir_Run [.pointer none, .slice none 0 0] h q ↔ q (.bool false) h := by
  rw [w_ir_Run]
  simp (maxSteps := 10000000) (disch := first | assumption | ((try simp only [push_next, put_next, adv_next, List.length_cons, List.length_nil, List.length_map, List.length_set]); omega) | simp)
def L0 : List IOp := [⟨1, 3, 0, 0, 5#32⟩, ⟨3, 3, 3, 3, 0#32⟩]
theorem L0_ok : oks L0 := by decide
theorem L0_run : irun ((List.replicate 40 0#32).set 0 0#32) L0 = (List.replicate 40 0#32).set 3 10#32 := by decide +kernel
theorem known : WC T n_pianolalaw18_known [] h fun v h' => v = .bool true ∧ Kp h h' := by
  rw [w_pianolalaw18_known]
  simp (maxSteps := 10000000) (disch := first | assumption | ((try simp only [push_next, put_next, adv_next, List.length_cons, List.length_nil, List.length_map, List.length_set]); omega) | simp) [-List.reduceReplicate]
  generalize hH : (h.push (.cells false (List.replicate 40 (u32 0#32)))).push _ = H
  have g0 : H.get h.next = some (.cells false ((List.replicate 40 0#32).map u32)) := by rw [← hH, get_push_ne (by simp), get_push_self, List.map_replicate]
  have g1 : H.get (h.next + 1) = some (.cells false (encOp.all L0)) := by rw [← hH]; exact get_push_self (h := h.push _)
  have K : Kp h H := by rw [← hH]; exact ((Kp.refl h).push _).push _
  have s1 : Sees encOp H (some ⟨h.next + 1, 0, none⟩) L0 := ⟨fun hA => (by cases hA), fun A hA => by
    cases hA
    exact rdn_all g1 (by simp [L0, encOp]), fun A hA => (by cases hA; exact .inl rfl)⟩
  refine GC_intro (ir_run (R := List.replicate 40 0#32) (L := L0) (cp := 2) (q := fun v h3 => v = .bool true ∧ h3.get h.next = some (.cells false (((List.replicate 40 0#32).set 3 10#32).map u32)) ∧ Upd H h3 [h.next] [h.next]) (by simp) g0 s1 (fun A hA => by cases hA; simp) (by decide) fun h3 g3 u3 => ⟨by simp [L0_ok], by rw [g3, if_pos L0_ok, L0_run], u3⟩) fun v h3 ⟨hv, g3, u3⟩ => ?_
  subst hv
  have K3 : Kp h h3 := kp_upd K u3 (Nat.le_refl _)
  have g3' : h3.get h.next = some (.cells false [u32 0#32, u32 0#32, u32 0#32, u32 10#32, u32 0#32, u32 0#32, u32 0#32, u32 0#32, u32 0#32, u32 0#32, u32 0#32, u32 0#32, u32 0#32, u32 0#32, u32 0#32, u32 0#32, u32 0#32, u32 0#32, u32 0#32, u32 0#32, u32 0#32, u32 0#32, u32 0#32, u32 0#32, u32 0#32, u32 0#32, u32 0#32, u32 0#32, u32 0#32, u32 0#32, u32 0#32, u32 0#32, u32 0#32, u32 0#32, u32 0#32, u32 0#32, u32 0#32, u32 0#32, u32 0#32, u32 0#32]) := g3
  have irr := fun (h : Hp) (q : Value → Hp → Prop) => ir_right (h := h) (q := q) (o := ⟨0, 40, 0, 0, 0#32⟩)
  simp only [encOp] at irr
  simp (maxSteps := 10000000) (disch := first | assumption | ((try simp only [push_next, put_next, adv_next, List.length_cons, List.length_nil, List.length_map, List.length_set]); omega) | simp) [g3', GC_of (fun q => irr _ q), show ¬ (⟨0, 40, 0, 0, 0#32⟩ : IOp).ok by decide]
  generalize hH4 : (h3.push _).push _ = H4
  have K4 : Kp h H4 := by rw [← hH4]; exact (K3.push _).push _
  refine GC_intro (ir_writes (o := ⟨17, 0, 0, 0, 0#32⟩)) fun v h5 ⟨hz, K5⟩ => ?_
  obtain ⟨a5, c5, rfl, s5⟩ := hz
  have e5 : iwrites ⟨17, 0, 0, 0, 0#32⟩ = [32, 33] := by decide
  rw [e5] at s5 ⊢
  simp (maxSteps := 10000000) (disch := first | assumption | ((try simp only [push_next, put_next, adv_next, List.length_cons, List.length_nil, List.length_map, List.length_set]); omega) | simp)
  have same := fun q => same_int (q := q) (c := c5) (c' := 2) (s5.kp ((Kp.refl h5).push (.cells false [.int .i64 32, .int .i64 33]))) (sees_blk (l := [32, 33]) (ro := false) (h := h5.push (.cells false [.int .i64 32, .int .i64 33])) get_push_self) (by simp)
  simp at same
  simp (maxSteps := 10000000) (disch := first | assumption | ((try simp only [push_next, put_next, adv_next, List.length_cons, List.length_nil, List.length_map, List.length_set]); omega) | simp) [GC_of same, GC_of (fun q => run_nil)]
  exact (K4.trans K5).push _
end
end Go.Proofs.Ytjobkhnanbkcjaa.Cd

/- Operations that are right, as the laws make them. -/
set_option maxRecDepth 1000000
set_option maxHeartbeats 8000000
set_option linter.unusedSimpArgs false
set_option linter.unusedVariables false
namespace Go.Proofs.Ytjobkhnanbkcjaa.Cd
open Go Go.Dx
section
variable {h : Hp} {q : Value → Hp → Prop} {b c c' : Nat} {o : IOp} {a a' : Option Addr} {L : List IOp}
theorem wth {n : Int} : WC T n_pianolabook_Within [.int .i64 n, .int .i64 0, .int .i64 1048576] h q ↔ q (.int .i64 (wi n 0 1048576)) h := within_eq (by omega) (by omega) (by omega)
theorem cell_of {n : Int} : WC T n_pianolalaw18_cell [.int .i64 n] h fun v h' => (∃ m, v = .int .i64 m ∧ 0 ≤ m ∧ m < 40) ∧ Kp h h' := by
  rw [w_pianolalaw18_cell]
  obtain ⟨b0, b1⟩ := wi_bound (n := n) (lo := 0) (hi := 1048576) (by omega)
  simp (maxSteps := 10000000) (disch := first | assumption | ((try simp only [push_next, put_next, adv_next, List.length_cons, List.length_nil, List.length_map, List.length_set]); omega) | simp) [GC_of (fun q => wth)]
  generalize wi n 0 1048576 = m at b0 b1
  obtain ⟨k, rfl⟩ := Int.eq_ofNat_of_zero_le b0
  have e3 : (k : Int).tmod 3 = ((k % 3 : Nat) : Int) := by rw [Int.tmod_eq_emod_of_nonneg (by omega)]; rfl
  have q3 : (k : Int).tdiv 3 = ((k / 3 : Nat) : Int) := by rw [Int.tdiv_eq_ediv_of_nonneg (by omega)]; rfl
  have w3 : IntKind.i64.wrap ((k / 3 : Nat) : Int) = ((k / 3 : Nat) : Int) := wrap_i64 (by omega) (by omega)
  have e40 : ((k / 3 : Nat) : Int).tmod 40 = ((k / 3 % 40 : Nat) : Int) := by rw [Int.tmod_eq_emod_of_nonneg (by omega)]; rfl
  have e8 : ((k / 3 : Nat) : Int).tmod 8 = ((k / 3 % 8 : Nat) : Int) := by rw [Int.tmod_eq_emod_of_nonneg (by omega)]; rfl
  by_cases hz : k % 3 = 0
  · have hz' : ((k % 3 : Nat) : Int) = 0 := by omega
    simp only [hz'] at e3
    simp (maxSteps := 10000000) (disch := first | assumption | ((try simp only [push_next, put_next, adv_next, List.length_cons, List.length_nil, List.length_map, List.length_set]); omega) | simp) [e3, q3, w3, e40, -Int.natCast_emod, -Int.natCast_ediv, -wrap_i64]
    exact ⟨by omega, .refl _⟩
  · have hz' : ¬ ((k % 3 : Nat) : Int) = 0 := by omega
    have ix : k / 3 % 8 = 0 ∨ k / 3 % 8 = 1 ∨ k / 3 % 8 = 2 ∨ k / 3 % 8 = 3 ∨ k / 3 % 8 = 4 ∨ k / 3 % 8 = 5 ∨ k / 3 % 8 = 6 ∨ k / 3 % 8 = 7 := by omega
    rcases ix with ix | ix | ix | ix | ix | ix | ix | ix <;>
    · rw [ix] at e8
      simp (maxSteps := 10000000) (disch := first | assumption | ((try simp only [push_next, put_next, adv_next, List.length_cons, List.length_nil, List.length_map, List.length_set]); omega) | simp) [e3, hz, hz', q3, w3, e8, -Int.natCast_emod, -Int.natCast_ediv, -wrap_i64]
      exact (Kp.refl h).push _
theorem near_of {n : Nat} (hs : Sees encOp h a L) (hb : L.length < 2 ^ 63) (hn : n ≤ 40) : WC T n_pianolalaw18_near [.slice a L.length c, .int .i64 n] h fun v h' => ∃ X fp, Own encOp h' v X fp ∧ oks X ∧ X.length = min n L.length ∧ (∀ b ∈ fp, h.next ≤ b) ∧ Kp h h' := by
  rw [w_pianolalaw18_near]
  simp (maxSteps := 10000000) (disch := first | assumption | ((try simp only [push_next, put_next, adv_next, List.length_cons, List.length_nil, List.length_map, List.length_set]); omega) | simp)
  refine G_loop (fun m e h' => ∃ X fp, m = n - X.length ∧ Own encOp h' (e 5) X fp ∧ oks X ∧ X.length ≤ n ∧ X.length ≤ L.length ∧ (∀ b ∈ fp, h.next ≤ b) ∧ Kp h h' ∧ e 0 = .slice a L.length c ∧ e 1 = .int .i64 n ∧ e 6 = .int .i64 X.length) ?_ n _ _ ⟨[], [], rfl, by simp; exact .nul, fun o ho => (by cases ho), by simp, by simp, by simp, .refl _, by simp, by simp, by simp⟩
  rintro m ih e h' ⟨X, fp, rfl, O, hok, hX, hXL, hfp, K, e0, e1, e6⟩
  by_cases h1 : X.length < L.length
  case neg =>
    have h1' : ¬ ((X.length : Int) < L.length) := by omega
    simp (maxSteps := 10000000) (disch := first | assumption | ((try simp only [push_next, put_next, adv_next, List.length_cons, List.length_nil, List.length_map, List.length_set]); omega) | simp) [e0, e1, e6, h1, h1']
    exact ⟨X, fp, O, hok, by omega, hfp, K⟩
  have h1' : (X.length : Int) < L.length := by omega
  by_cases h2 : X.length < n
  case neg =>
    have h2' : ¬ ((X.length : Int) < n) := by omega
    simp (maxSteps := 10000000) (disch := first | assumption | ((try simp only [push_next, put_next, adv_next, List.length_cons, List.length_nil, List.length_map, List.length_set]); omega) | simp) [e0, e1, e6, h1, h1', h2, h2']
    exact ⟨X, fp, O, hok, by omega, hfp, K⟩
  have h2' : (X.length : Int) < n := by omega
  obtain ⟨A, rfl, hr⟩ := (hs.kp K).at' X.length h1
  generalize L[X.length] = o at hr
  have hr' : h'.rdn A.block (A.off + X.length * 5) 5 = some [.int .i64 o.k, .int .i64 o.d, .int .i64 o.a, .int .i64 o.b, u32 o.imm] := hr
  obtain ⟨b0, b1⟩ := wi_bound (n := o.k) (lo := 0) (hi := 1048576) (by omega)
  simp (maxSteps := 10000000) (disch := first | assumption | ((try simp only [push_next, put_next, adv_next, List.length_cons, List.length_nil, List.length_map, List.length_set]); omega) | simp) [e0, e1, e6, h1, h1', h2, h2', hr', GCI_of (fun q => wth)]
  generalize hH : h'.push (.cells false [.int .i64 o.k, .int .i64 o.d, .int .i64 o.a, .int .i64 o.b, u32 o.imm]) = H
  have y : H.get h'.next = some (.cells false [.int .i64 o.k, .int .i64 o.d, .int .i64 o.a, .int .i64 o.b, u32 o.imm]) := by rw [← hH, get_push_self]
  have KH : Kp h' H := by rw [← hH]; exact (Kp.refl h').push _
  refine GCI_intro cell_of fun v h3 ⟨⟨m1, hv, m1l, m1h⟩, K3⟩ => ?_
  subst hv
  have y3 : h3.get h'.next = _ := (K3.get _ (lt_of_get y)).trans y
  simp (maxSteps := 10000000) (disch := first | assumption | ((try simp only [push_next, put_next, adv_next, List.length_cons, List.length_nil, List.length_map, List.length_set]); omega) | simp) [y3]
  refine GCI_intro cell_of fun v h4 ⟨⟨m2, hv, m2l, m2h⟩, K4⟩ => ?_
  subst hv
  have y4 : h4.get h'.next = _ := (K4.get _ (lt_of_get y3)).trans y3
  simp (maxSteps := 10000000) (disch := first | assumption | ((try simp only [push_next, put_next, adv_next, List.length_cons, List.length_nil, List.length_map, List.length_set]); omega) | simp) [y4]
  refine GCI_intro cell_of fun v h5 ⟨⟨m3, hv, m3l, m3h⟩, K5⟩ => ?_
  subst hv
  have y5 : h5.get h'.next = _ := (K5.get _ (lt_of_get y4)).trans y4
  have l5 := lt_of_get y5
  have kr : 0 ≤ (wi o.k 0 1048576).tmod 23 ∧ (wi o.k 0 1048576).tmod 23 ≤ 22 := by
    rw [Int.tmod_eq_emod_of_nonneg b0]; omega
  simp (maxSteps := 10000000) (disch := first | assumption | ((try simp only [push_next, put_next, adv_next, List.length_cons, List.length_nil, List.length_map, List.length_set]); omega) | simp) [y5, Hp.rdn, e0, e1, e6]
  generalize hk : (wi o.k 0 1048576).tmod 23 = kk at kr
  generalize hH6 : h5.put h'.next (some (.cells false [.int .i64 kk, .int .i64 m1, .int .i64 m2, .int .i64 m3, u32 o.imm])) = H6
  have K6 : Kp h' H6 := by rw [← hH6]; exact (((KH.trans K3).trans K4).trans K5).put (Nat.le_refl _) _
  have n6 : h5.next = H6.next := by rw [← hH6]; rfl
  rw [n6]
  have O6 : Own encOp H6 (e 5) X fp := O.kp K6
  refine GV_app1 (E := encOp) (bytes := 40) (x := ⟨kk, m1, m2, m3, o.imm⟩) O6 (by omega) (by omega) fun v' h7 fp' O' U => ?_
  simp (maxSteps := 10000000) (disch := first | assumption | ((try simp only [push_next, put_next, adv_next, List.length_cons, List.length_nil, List.length_map, List.length_set]); omega) | simp) [e6]
  refine ih (n - (X.length + 1)) (by omega) _ _ ⟨X ++ [⟨kk, m1, m2, m3, o.imm⟩], fp', by simp, by simpa using O', ?_, by simp; omega, by simp; omega, fun b hb => ?_, U.kp' (K.trans K6) hfp, by simp [e0], by simp [e1], by simp⟩
  · intro x hx
    rcases List.mem_append.1 hx with hx | hx
    · exact hok x hx
    · simp at hx
      subst hx
      exact ⟨⟨m1l, m1h⟩, ⟨m2l, m2h⟩, ⟨m3l, m3h⟩, kr.1, kr.2⟩
  · rcases U.sub b hb with hb | hb
    · exact hfp b hb
    · exact Nat.le_trans (K.trans K6).le hb
end
end Go.Proofs.Ytjobkhnanbkcjaa.Cd

/- Small operations: the laws. -/
set_option maxRecDepth 1000000
set_option maxHeartbeats 8000000
set_option linter.unusedSimpArgs false
set_option linter.unusedVariables false
namespace Go.Proofs.Ytjobkhnanbkcjaa.Cd
open Go Go.Dx
section
variable {h : Hp} {q : Value → Hp → Prop} {b c c' : Nat} {o : IOp} {a a' : Option Addr} {l : List (BitVec 32)} {L : List IOp}
theorem irtells (hs : Sees encW h a l) (hb : l.length < 2 ^ 63) (hL : Sees encOp h a' L) (hb' : L.length < 2 ^ 63) (hc : L.length ≤ c') : WC T n_pianolalaw18_IrTells [.slice a l.length c, .slice a' L.length c'] h fun v _ => v = .bool true := by
  rw [w_pianolalaw18_IrTells]
  simp (maxSteps := 10000000) (disch := first | assumption | ((try simp only [push_next, put_next, adv_next, List.length_cons, List.length_nil, List.length_map, List.length_set]); omega) | simp)
  refine GC_intro (near_of (n := 30) hL hb' (by omega)) fun v h1 ⟨X, fp, O, hok, hX, hfp, K⟩ => ?_
  obtain ⟨ax, cx, rfl, sx, _, _⟩ := O.len
  have hl1 : X.length ≤ L.length := by omega
  have hl2 : X.length ≤ 30 := by omega
  simp (maxSteps := 10000000) (disch := first | assumption | ((try simp only [push_next, put_next, adv_next, List.length_cons, List.length_nil, List.length_map, List.length_set]); omega) | simp)
  refine G_loop (fun m e h' => ∃ i : Nat, m = X.length - i ∧ i ≤ X.length ∧ Kp h1 h' ∧ e 0 = .slice a l.length c ∧ e 1 = .slice a' L.length c' ∧ e 5 = .slice ax X.length cx ∧ e 6 = .int .i64 i) ?_ X.length _ _ ⟨0, by simp, by omega, .refl _, by simp, by simp, by simp, by simp⟩
  rintro m ih e h' ⟨i, rfl, hi, K1, e0, e1, e5, e6⟩
  by_cases hi2 : i < X.length
  · have hi3 : (i : Int) < X.length := by omega
    have hi4 : i < L.length := by omega
    obtain ⟨A, rfl, hr⟩ := (sx.kp K1).at' i hi2
    have hr' : h'.rdn A.block (A.off + i * 5) 5 = some (encOp.enc X[i]) := hr
    simp (maxSteps := 10000000) (disch := first | assumption | ((try simp only [push_next, put_next, adv_next, List.length_cons, List.length_nil, List.length_map, List.length_set]); omega) | simp) [e0, e1, e5, e6, hi2, hi3, hr']
    refine GC_intro tells fun v h2 ⟨hv, K2⟩ => ?_
    subst hv
    obtain ⟨A', rfl, hr2⟩ := (hL.kp ((K.trans K1).trans K2)).at' i hi4
    have hr2' : h2.rdn A'.block (A'.off + i * 5) 5 = some (encOp.enc L[i]) := hr2
    simp (maxSteps := 10000000) (disch := first | assumption | ((try simp only [push_next, put_next, adv_next, List.length_cons, List.length_nil, List.length_map, List.length_set]); omega) | simp) [e0, e1, e5, e6, hi2, hi3, hi4, hr2']
    refine GC_intro tells fun v h3 ⟨hv, K3⟩ => ?_
    subst hv
    simp (maxSteps := 10000000) (disch := first | assumption | ((try simp only [push_next, put_next, adv_next, List.length_cons, List.length_nil, List.length_map, List.length_set]); omega) | simp) [e6]
    exact ih (X.length - (i + 1)) (by omega) _ _ ⟨i + 1, rfl, by omega, (K1.trans K2).trans K3, by simp [e0], by simp [e1], by simp [e5], by simp⟩
  · have hi2' : i = X.length := by omega
    subst hi2'
    have sl := hs.kp (K.trans K1)
    have sL := hL.kp (K.trans K1)
    by_cases h20 : 20 < L.length
    · have h20' : (20 : Int) < L.length := by omega
      obtain ⟨a2, c2, e2, _, s2⟩ := sL.part (lo := 0) (hi := 20) (by omega) (by omega) hc (l := none) (u := some (.int .i64 20)) (.inl ⟨rfl, rfl⟩) (.inr ⟨.i64, rfl⟩)
      have s2' : Sees encOp h' a2 (L.take 20) := by simpa using s2
      have l2 : (L.take 20).length = 20 := by simp; omega
      have e2' : sliceV 5 (.slice a' L.length c') none (some (.int .i64 20)) none = some (.slice a2 20 c2) := e2
      simp (maxSteps := 10000000) (disch := first | assumption | ((try simp only [push_next, put_next, adv_next, List.length_cons, List.length_nil, List.length_map, List.length_set]); omega) | simp) [e0, e1, e5, e6, h20, h20', e2']
      refine GC_intro (runs sl hb (sx.kp K1) (by omega)) fun v h2 ⟨hv, K2⟩ => ?_
      subst hv
      have rr := runs (c := c) (c' := c2) (sl.kp K2) hb (s2'.kp K2) (by omega)
      rw [l2] at rr
      simp (maxSteps := 10000000) (disch := first | assumption | ((try simp only [push_next, put_next, adv_next, List.length_cons, List.length_nil, List.length_map, List.length_set]); omega) | simp) [e0]
      refine GC_intro rr fun v h3 ⟨hv, K3⟩ => ?_
      subst hv
      simp (maxSteps := 10000000) (disch := first | assumption | ((try simp only [push_next, put_next, adv_next, List.length_cons, List.length_nil, List.length_map, List.length_set]); omega) | simp)
      refine GC_intro known fun v h4 ⟨hv, K4⟩ => ?_
      subst hv
      simp (maxSteps := 10000000) (disch := first | assumption | ((try simp only [push_next, put_next, adv_next, List.length_cons, List.length_nil, List.length_map, List.length_set]); omega) | simp)
    · have h20' : ¬ (20 : Int) < L.length := by omega
      simp (maxSteps := 10000000) (disch := first | assumption | ((try simp only [push_next, put_next, adv_next, List.length_cons, List.length_nil, List.length_map, List.length_set]); omega) | simp) [e0, e1, e5, e6, h20, h20']
      refine GC_intro (runs sl hb (sx.kp K1) (by omega)) fun v h2 ⟨hv, K2⟩ => ?_
      subst hv
      simp (maxSteps := 10000000) (disch := first | assumption | ((try simp only [push_next, put_next, adv_next, List.length_cons, List.length_nil, List.length_map, List.length_set]); omega) | simp) [e0, e1]
      refine GC_intro (runs (sl.kp K2) hb (sL.kp K2) hb') fun v h3 ⟨hv, K3⟩ => ?_
      subst hv
      simp (maxSteps := 10000000) (disch := first | assumption | ((try simp only [push_next, put_next, adv_next, List.length_cons, List.length_nil, List.length_map, List.length_set]); omega) | simp)
      refine GC_intro known fun v h4 ⟨hv, K4⟩ => ?_
      subst hv
      simp (maxSteps := 10000000) (disch := first | assumption | ((try simp only [push_next, put_next, adv_next, List.length_cons, List.length_nil, List.length_map, List.length_set]); omega) | simp)
end
end Go.Proofs.Ytjobkhnanbkcjaa.Cd

/- Small operations: the law of cells. -/
set_option maxRecDepth 1000000
set_option maxHeartbeats 8000000
set_option linter.unusedSimpArgs false
set_option linter.unusedVariables false
namespace Go.Proofs.Ytjobkhnanbkcjaa.Cd
open Go Go.Dx
section
variable {h : Hp} {q : Value → Hp → Prop} {b c c' : Nat} {o p : IOp} {R : Regs} {a a' : Option Addr} {l m : List (BitVec 32)}
theorem sees_op1 {ro : Bool} (hg : h.get b = some (.cells ro (encOp.enc o))) : Sees encOp h (some ⟨b, 0, none⟩) [o] := ⟨fun hA => (by cases hA), fun A hA => by
  cases hA
  exact rdn_all hg (by simp [encOp]), fun A hA => (by cases hA; exact .inl rfl)⟩
theorem one_of {X : List IOp} (h : X.length = 1) : ∃ x, X = [x] := by
  match X, h with
  | [x], _ => exact ⟨x, rfl⟩
theorem rg_nat {R : Regs} {n : Nat} (hh : n < R.length) : R[n]'hh = rg R (n : Int) := by
  simp [rg, List.getD_eq_getElem?_getD, hh]
theorem rg_natq {R : Regs} {n : Nat} (hh : n < R.length) : R[n]? = some (rg R (n : Int)) := by
  rw [List.getElem?_eq_getElem hh, rg_nat]
theorem ircells (hs : Sees encW h a l) (hb : l.length < 2 ^ 63) (hm : Sees encW h a' m) (hb' : m.length < 2 ^ 63) : WC T n_pianolalaw18_IrCells [.slice a l.length c, .slice a' m.length c', .agg (encOp.enc o).toArray] h fun v _ => v = .bool true := by
  rw [w_pianolalaw18_IrCells]
  simp (maxSteps := 10000000) (disch := first | assumption | ((try simp only [push_next, put_next, adv_next, List.length_cons, List.length_nil, List.length_map, List.length_set]); omega) | simp) [-List.reduceReplicate, encOp, Hp.rdn]
  generalize hH : (h.push (.cells false [.int .i64 o.k, .int .i64 o.d, .int .i64 o.a, .int .i64 o.b, u32 o.imm])).push (.cells false [.int .i64 o.k, .int .i64 o.d, .int .i64 o.a, .int .i64 o.b, u32 o.imm]) = H
  have KH : Kp h H := by rw [← hH]; exact ((Kp.refl h).push _).push _
  have gH : H.get (h.next + 1) = some (.cells false (encOp.enc o)) := by rw [← hH]; exact get_push_self (h := h.push _)
  refine GC_intro (near_of (n := 1) (sees_op1 gH) (by simp) (by omega)) fun v h1 ⟨X, fp, O, hok, hX, hfp, K⟩ => ?_
  obtain ⟨ax, cx, rfl, sx, hcx, hax⟩ := O.len
  obtain ⟨x, rfl⟩ := one_of (by simpa using hX)
  have ho := hok x (by simp)
  obtain ⟨A, rfl, hr⟩ := sx.at' 0 (by simp)
  have hr' : h1.rdn A.block A.off 5 = some [.int .i64 x.k, .int .i64 x.d, .int .i64 x.a, .int .i64 x.b, u32 x.imm] := by simpa [encOp] using hr
  simp (maxSteps := 10000000) (disch := first | assumption | ((try simp only [push_next, put_next, adv_next, List.length_cons, List.length_nil, List.length_map, List.length_set]); omega) | simp) [-List.reduceReplicate, hr']
  generalize hM1 : h1.push (.cells false [.int .i64 x.k, .int .i64 x.d, .int .i64 x.a, .int .i64 x.b, u32 x.imm]) = M1
  have KM1 : Kp h M1 := by rw [← hM1]; exact (KH.trans K).push _
  have gx : M1.get h1.next = some (.cells false [.int .i64 x.k, .int .i64 x.d, .int .i64 x.a, .int .i64 x.b, u32 x.imm]) := by rw [← hM1, get_push_self]
  have lx := lt_of_get gx
  have nh1 := (KH.trans K).le
  refine GC_intro (regs_of (hs.kp KM1) hb) fun v h2 ⟨hv, K2⟩ => ?_
  subst hv
  simp (maxSteps := 10000000) (disch := first | assumption | ((try simp only [push_next, put_next, adv_next, List.length_cons, List.length_nil, List.length_map, List.length_set]); omega) | simp) [-List.reduceReplicate]
  refine GC_intro (regs_of (hm.kp (KM1.trans K2)) hb') fun v h3 ⟨hv, K3⟩ => ?_
  subst hv
  simp (maxSteps := 10000000) (disch := first | assumption | ((try simp only [push_next, put_next, adv_next, List.length_cons, List.length_nil, List.length_map, List.length_set]); omega) | simp) [-List.reduceReplicate, -Hp.wr]
  generalize hH4 : (h3.push (.cells false (List.replicate 40 (u32 0#32)))).push (.cells false (List.replicate 40 (u32 0#32))) = H4
  have g8 : H4.get h3.next = some (.cells false (List.replicate 40 (u32 0#32))) := by rw [← hH4, get_push_ne (by simp), get_push_self]
  have g9 : H4.get (h3.next + 1) = some (.cells false (List.replicate 40 (u32 0#32))) := by rw [← hH4]; exact get_push_self (h := h3.push _)
  have l9 := lt_of_get g9
  have w8 := wr_all (vs := (rgs l).map u32) g8 (by simp) (all_u32 _)
  have w9 := wr_all (h := H4.put h3.next (some (.cells false ((rgs l).map u32)))) (b := h3.next + 1) (vs := (rgs m).map u32) (by rw [get_put_ne (by omega)]; exact g9) (by simp) (all_u32 _)
  have KM : Kp h3 ((H4.put h3.next (some (.cells false ((rgs l).map u32)))).put (h3.next + 1) (some (.cells false ((rgs m).map u32)))) := by
    rw [← hH4]
    exact ((((Kp.refl h3).push _).push _).put (Nat.le_refl _) _).put (by omega) _
  have m8 : ((H4.put h3.next (some (.cells false ((rgs l).map u32)))).put (h3.next + 1) (some (.cells false ((rgs m).map u32)))).get h3.next = some (.cells false ((rgs l).map u32)) := by rw [get_put_ne (by omega), get_put_self (by omega)]
  have m9 : ((H4.put h3.next (some (.cells false ((rgs l).map u32)))).put (h3.next + 1) (some (.cells false ((rgs m).map u32)))).get (h3.next + 1) = some (.cells false ((rgs m).map u32)) := by rw [get_put_self (by simp; omega)]
  simp (maxSteps := 10000000) (disch := first | assumption | ((try simp only [push_next, put_next, adv_next, List.length_cons, List.length_nil, List.length_map, List.length_set]); omega) | simp) [-List.reduceReplicate, -Hp.wr, w8, w9]
  generalize ((H4.put h3.next (some (.cells false ((rgs l).map u32)))).put (h3.next + 1) (some (.cells false ((rgs m).map u32)))) = M at KM m8 m9
  have K13 : Kp M1 h3 := K2.trans K3
  have gxM := ((K13.trans KM).get _ lx).trans gx
  have rx := rdn_all (n := 5) gxM rfl
  simp (maxSteps := 10000000) (disch := first | assumption | ((try simp only [push_next, put_next, adv_next, List.length_cons, List.length_nil, List.length_map, List.length_set]); omega) | simp) [-List.reduceReplicate, -Hp.wr, rx]
  refine GC_intro (ir_reads (o := x)) fun v h5 ⟨hz, K5⟩ => ?_
  obtain ⟨ar, cr, rfl, sr⟩ := hz
  have n13 := K13.le
  have lb := lt_of_get m9
  simp (maxSteps := 10000000) (disch := first | assumption | ((try simp only [push_next, put_next, adv_next, List.length_cons, List.length_nil, List.length_map, List.length_set]); omega) | simp) [-List.reduceReplicate, -Hp.wr]
  have hn5 := K5.le
  have p8 := (K5.get _ (lt_of_get m8)).trans m8
  have p9 := (K5.get _ lb).trans m9
  have px := (K5.get _ (lt_of_get gxM)).trans gxM
  have hx8 : h1.next < h3.next := Nat.lt_of_lt_of_le lx n13
  have nn5 : h3.next + 1 < h5.next := lt_of_get p9
  refine G_loop (fun n e h' => ∃ us vs Rb, n = vs.length ∧ ireads x = us ++ vs ∧ Rb.length = 40 ∧ rg Rb 0 = 0#32 ∧ (∀ c ∈ us, rg Rb c = rg (rgs l) c) ∧ h'.get (h3.next + 1) = some (.cells false (Rb.map u32)) ∧ Upd h5 h' [h3.next + 1] [h3.next + 1] ∧ e 7 = ptr h1.next 0 ∧ e 8 = ptr h3.next 0 ∧ e 9 = ptr (h3.next + 1) 0 ∧ e 28 = .slice ar (ireads x).length cr ∧ e 29 = .int .i64 (ireads x).length ∧ e 30 = .int .i64 us.length) ?_ (ireads x).length _ _ ⟨[], ireads x, rgs m, rfl, rfl, by simp, rgs_zero m, by simp, p9, .refl, by simp, by simp, by simp, by simp, by simp, by simp⟩
  have hrl := ireads_len x
  rintro n ih e h' ⟨us, vs, Rb, rfl, hu, hRb, hz, hag, gb, U, e7, e8, e9, e28, e29, e30⟩
  have gltb := lt_of_get gb
  cases vs with
  | cons v vs =>
    have hl : us.length < (ireads x).length := by rw [hu]; simp
    have hl' : (us.length : Int) < (ireads x).length := by omega
    have hv := ireads_in (o := x) (c := v) (by rw [hu]; simp)
    obtain ⟨B, ro, C, rfl, k1, k2⟩ := Sees.cell (f := fun n => Value.int .i64 n) (fun _ => rfl) rfl (us := us) (x := v) (vs := vs) (by rw [← hu]; exact sr)
    have hB : B.block ≠ h3.next + 1 := fun hh => by
      rw [hh, p9] at k1
      cases k1
      simp [u32] at k2
    have k1' : h'.get B.block = some (.cells ro C) := by rw [U.get _ (lt_of_get k1) (by simpa using hB), k1]
    have v0 : ¬ v < 0 := by omega
    have v1 : ¬ 40 ≤ v := by omega
    have v2 : v ≤ 39 := by omega
    have p8' : h'.get h3.next = some (.cells false ((rgs l).map u32)) := by rw [U.get _ (lt_of_get p8) (by simp), p8]
    have ra := rg_at (R := rgs l) hv.1 (by simp; omega)
    have o1 := fun (l : List Value) n v => over_set (l := l) (i := n) (v := v)
    simp (maxSteps := 10000000) (disch := first | assumption | ((try simp only [push_next, put_next, adv_next, List.length_cons, List.length_nil, List.length_map, List.length_set]); omega) | simp) [-List.reduceReplicate, e7, e8, e9, e28, e29, e30, hl', k1', k2, v0, v1, v2, p8', ra, gb, hRb, -over, o1]
    refine ih vs.length (by simp) _ _ ⟨us ++ [v], vs, Rb.set v.toNat (rg (rgs l) v), rfl, by simp [hu], by simp [hRb], ?_, ?_, ?_, U.put1, by simp [e7], by simp [e8], by simp [e9], by simp [e28], by simp [e29], by simp⟩
    · rw [rg_set (by omega) (by omega)]
      split
      · rename_i h0
        have : v = 0 := by omega
        rw [this, rgs_zero]
      · exact hz
    · intro y hy
      have hy0 : 0 ≤ y := by
        rcases List.mem_append.1 hy with h1 | h1
        · exact (ireads_in (o := x) (by rw [hu]; simp [h1])).1
        · simp at h1; omega
      rw [rg_set hy0 (by omega)]
      split
      · rename_i h0
        have : y = v := by omega
        rw [this]
      · rename_i h0
        rcases List.mem_append.1 hy with h1 | h1
        · exact hag y h1
        · simp at h1; omega
    · rw [get_put_self gltb, List.map_set]
  | nil =>
    have hus : ireads x = us := by simpa using hu
    rw [← hus] at hag
    have hl : ((ireads x).length : Int) = us.length := by rw [hus]
    clear ih
    have p8' : h'.get h3.next = some (.cells false ((rgs l).map u32)) := by rw [U.get _ (lt_of_get p8) (by simp), p8]
    have px' : h'.get h1.next = some (.cells false (encOp.enc x)) := by rw [U.get _ (lt_of_get px) (by simp; omega), px]; rfl
    have r8 := rdn_all (n := 40) p8' (by simp)
    simp (maxSteps := 10000000) (disch := first | assumption | ((try simp only [push_next, put_next, adv_next, List.length_cons, List.length_nil, List.length_map, List.length_set]); omega) | simp) [-List.reduceReplicate, -Hp.wr, e7, e8, e9, e28, e29, e30, hl, r8, all_u32]
    generalize hN : h'.push (.cells false ((rgs l).map u32)) = N
    have KN : Kp h' N := by rw [← hN]; exact (Kp.refl h').push _
    have g12 : N.get h'.next = some (.cells false ((rgs l).map u32)) := by rw [← hN, get_push_self]
    have n8 := (KN.get _ (lt_of_get p8')).trans p8'
    have n9 := (KN.get _ gltb).trans gb
    have nx := (KN.get _ (lt_of_get px')).trans px'
    have rx1 := rdn_all (n := 5) nx rfl
    simp only [encOp] at rx1
    have l12 := lt_of_get g12
    have l8 := lt_of_get n8
    have K2n := (Kp.refl N).push (.cells false (encOp.enc x))
    have okx : oks [x] := hok
    have z0 : (rgs l).set 0 0#32 = rgs l := set_zero (rgs_zero l)
    have n3h : h3.next + 1 < h'.next := gltb
    simp (maxSteps := 10000000) (disch := first | assumption | ((try simp only [push_next, put_next, adv_next, List.length_cons, List.length_nil, List.length_map, List.length_set]); omega) | simp) [-List.reduceReplicate, -Hp.wr, rx1, e7, e8, e9]
    refine GC_intro (ir_run (c := h3.next) (cp := 1) (L := [x]) (q := fun v h6 => v = .bool true ∧ h6.get h3.next = some (.cells false ((ido (rgs l) x).map u32)) ∧ Upd (N.push (.cells false (encOp.enc x))) h6 [h3.next] [h3.next]) (rgs_length l) ((K2n.get _ l8).trans n8) (sees_op1 (ro := false) get_push_self) (fun A hh => by cases hh; simp; omega) (by simp) fun h6 g6 u6 => ⟨by simp [okx], by rw [g6, if_pos okx, z0]; rfl, u6⟩) fun v h6 ⟨hv, g6, u6⟩ => ?_
    subst hv
    have n69 : h6.get (h3.next + 1) = some (.cells false (Rb.map u32)) := by rw [u6.get _ (by simp; omega) (by simp), K2n.get _ (by omega), n9]
    have n6x : h6.get h1.next = some (.cells false (encOp.enc x)) := by rw [u6.get _ (by simp; omega) (by simp; omega), K2n.get _ (by omega), nx]
    have n612 : h6.get h'.next = some (.cells false ((rgs l).map u32)) := by rw [u6.get _ (by simp; omega) (by simp; omega), K2n.get _ (by omega), g12]
    have rx2 := rdn_all (n := 5) n6x rfl
    simp only [encOp] at rx2
    simp (maxSteps := 10000000) (disch := first | assumption | ((try simp only [push_next, put_next, adv_next, List.length_cons, List.length_nil, List.length_map, List.length_set]); omega) | simp) [-List.reduceReplicate, -Hp.wr, rx2, e7, e8, e9]
    have K3n := (Kp.refl h6).push (.cells false (encOp.enc x))
    have zb : Rb.set 0 0#32 = Rb := set_zero hz
    have l69 := lt_of_get n69
    refine GC_intro (ir_run (c := h3.next + 1) (cp := 1) (L := [x]) (q := fun v h7 => v = .bool true ∧ h7.get (h3.next + 1) = some (.cells false ((ido Rb x).map u32)) ∧ Upd (h6.push (.cells false (encOp.enc x))) h7 [h3.next + 1] [h3.next + 1]) hRb ((K3n.get _ l69).trans n69) (sees_op1 (ro := false) get_push_self) (fun A hh => by cases hh; simp; omega) (by simp) fun h7 g7 u7 => ⟨by simp [okx], by rw [g7, if_pos okx, zb]; rfl, u7⟩) fun v h7 ⟨hv, g7, u7⟩ => ?_
    subst hv
    have l6 := lt_of_get g6
    have l612 := lt_of_get n612
    have n78 : h7.get h3.next = some (.cells false ((ido (rgs l) x).map u32)) := by rw [u7.get _ (by simp; omega) (by simp), K3n.get _ l6, g6]
    have n712 : h7.get h'.next = some (.cells false ((rgs l).map u32)) := by rw [u7.get _ (by simp; omega) (by simp; omega), K3n.get _ l612, n612]
    have n7x : h7.get h1.next = some (.cells false (encOp.enc x)) := by rw [u7.get _ (by simp; have := lt_of_get n6x; omega) (by simp; omega), K3n.get _ (lt_of_get n6x), n6x]
    have rx3 := rdn_all (n := 5) n7x rfl
    simp only [encOp] at rx3
    simp (maxSteps := 10000000) (disch := first | assumption | ((try simp only [push_next, put_next, adv_next, List.length_cons, List.length_nil, List.length_map, List.length_set]); omega) | simp) [-List.reduceReplicate, -Hp.wr, rx3, e7, e8, e9]
    refine GC_intro (ir_writes (o := x)) fun v h8 ⟨hz8, K8⟩ => ?_
    obtain ⟨aw, cw, rfl, sw⟩ := hz8
    have n88 := (K8.get _ (lt_of_get n78)).trans n78
    have n89 := (K8.get _ (lt_of_get g7)).trans g7
    have n812 := (K8.get _ (lt_of_get n712)).trans n712
    have hwl := iwrites_len x
    simp (maxSteps := 10000000) (disch := first | assumption | ((try simp only [push_next, put_next, adv_next, List.length_cons, List.length_nil, List.length_map, List.length_set]); omega) | simp) [-List.reduceReplicate, -Hp.wr]
    refine G_loop (fun n e h9 => ∃ j : Nat, n = 40 - j ∧ j ≤ 40 ∧ h9 = h8 ∧ e 8 = ptr h3.next 0 ∧ e 9 = ptr (h3.next + 1) 0 ∧ e 12 = ptr h'.next 0 ∧ e 13 = .slice aw (iwrites x).length cw ∧ e 14 = .int .i64 j) ?_ 40 _ _ ⟨0, by simp, by simp, rfl, by simp [e8], by simp [e9], by simp, by simp, by simp⟩
    rintro n ih f h9 ⟨j, rfl, hj, rfl, f8, f9, f12, f13, f14⟩
    by_cases h40 : j = 40
    · subst h40
      simp (maxSteps := 10000000) (disch := first | assumption | ((try simp only [push_next, put_next, adv_next, List.length_cons, List.length_nil, List.length_map, List.length_set]); omega) | simp) [f14]
      refine GC_intro known fun v h2 ⟨hv, _⟩ => ?_
      subst hv
      simp (maxSteps := 10000000) (disch := first | assumption | ((try simp only [push_next, put_next, adv_next, List.length_cons, List.length_nil, List.length_map, List.length_set]); omega) | simp)
    have hj2 : (j : Int) < 40 := by omega
    have hj3 : j ≤ 39 := by omega
    simp (maxSteps := 10000000) (disch := first | assumption | ((try simp only [push_next, put_next, adv_next, List.length_cons, List.length_nil, List.length_map, List.length_set]); omega) | simp) [f8, f9, f12, f13, f14, hj2]
    refine G_loop (fun n e' h2 => ∃ us vs, n = vs.length ∧ iwrites x = us ++ vs ∧ h2 = h9 ∧ e' 8 = ptr h3.next 0 ∧ e' 9 = ptr (h3.next + 1) 0 ∧ e' 12 = ptr h'.next 0 ∧ e' 13 = .slice aw (iwrites x).length cw ∧ e' 14 = .int .i64 j ∧ e' 15 = .bool (decide ((j : Int) ∈ us)) ∧ e' 63 = .slice aw (iwrites x).length cw ∧ e' 64 = .int .i64 (iwrites x).length ∧ e' 65 = .int .i64 us.length) ?_ (iwrites x).length _ _ ⟨[], iwrites x, rfl, rfl, rfl, by simp [f8], by simp [f9], by simp [f12], by simp [f13], by simp [f14], by simp, by simp, by simp, by simp⟩
    rintro n ih2 e' h2 ⟨us, vs, rfl, hw, rfl, t8, t9, t12, t13, t14, t15, t63, t64, t65⟩
    cases vs with
    | cons v vs =>
      have hl : us.length < (iwrites x).length := by rw [hw]; simp
      have hl' : (us.length : Int) < (iwrites x).length := by omega
      obtain ⟨B, ro, C, rfl, k1, k2⟩ := Sees.cell (f := fun n => Value.int .i64 n) (fun _ => rfl) rfl (us := us) (x := v) (vs := vs) (by rw [← hw]; exact sw)
      by_cases hmm : (j : Int) ∈ us
      · simp only [hmm, decide_true] at t15
        simp (maxSteps := 10000000) (disch := first | assumption | ((try simp only [push_next, put_next, adv_next, List.length_cons, List.length_nil, List.length_map, List.length_set]); omega) | simp) [t14, t15, t63, t64, t65, hl', k1, k2]
        refine ih2 vs.length (by simp) _ _ ⟨us ++ [v], vs, rfl, by simp [hw], rfl, by simp [t8], by simp [t9], by simp [t12], by simp [t13], by simp [t14], by simp [hmm], by simp [t63], by simp [t64], by simp⟩
      · simp only [hmm, decide_false] at t15
        simp (maxSteps := 10000000) (disch := first | assumption | ((try simp only [push_next, put_next, adv_next, List.length_cons, List.length_nil, List.length_map, List.length_set]); omega) | simp) [t14, t15, t63, t64, t65, hl', k1, k2]
        refine ih2 vs.length (by simp) _ _ ⟨us ++ [v], vs, rfl, by simp [hw], rfl, by simp [t8], by simp [t9], by simp [t12], by simp [t13], by simp [t14], ?_, by simp [t63], by simp [t64], by simp⟩
        simp [hmm, eq_comm]
    | nil =>
      have hws : iwrites x = us := by simpa using hw
      have hll : ((iwrites x).length : Int) = us.length := by rw [hws]
      have qa := rg_natq (R := ido (rgs l) x) (n := j) (by simp; omega)
      have qb := rg_natq (R := ido Rb x) (n := j) (by simp [hRb]; omega)
      have qc := rg_natq (R := rgs l) (n := j) (by simp; omega)
      by_cases hmm : (j : Int) ∈ us
      · simp only [hmm, decide_true] at t15
        have same : rg (ido (rgs l) x) j = rg (ido Rb x) j := ido_reads ho (by simp) hRb (fun c hc => (hag c hc).symm) (by rw [hws]; exact hmm)
        simp (maxSteps := 10000000) (disch := first | assumption | ((try simp only [push_next, put_next, adv_next, List.length_cons, List.length_nil, List.length_map, List.length_set]); omega) | simp) [t8, t9, t12, t14, t15, t63, t64, t65, hll, n88, n89, n812, hRb, hj3, qa, qb, qc, same]
        exact ih (40 - (j + 1)) (by omega) _ _ ⟨j + 1, rfl, by omega, rfl, by simp [t8], by simp [t9], by simp [t12], by simp [t13, hll], by simp⟩
      · simp only [hmm, decide_false] at t15
        have same : rg (ido (rgs l) x) j = rg (rgs l) j := ido_frame ho (by simp) (by omega) (by rw [hws]; exact hmm)
        simp (maxSteps := 10000000) (disch := first | assumption | ((try simp only [push_next, put_next, adv_next, List.length_cons, List.length_nil, List.length_map, List.length_set]); omega) | simp) [t8, t9, t12, t14, t15, t63, t64, t65, hll, n88, n89, n812, hRb, hj3, qa, qb, qc, same]
        exact ih (40 - (j + 1)) (by omega) _ _ ⟨j + 1, rfl, by omega, rfl, by simp [t8], by simp [t9], by simp [t12], by simp [t13, hll], by simp⟩
end
end Go.Proofs.Ytjobkhnanbkcjaa.Cd
