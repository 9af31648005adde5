/- Texts of one kind, one behind the other. -/
import Derived.Test.YtjobkhnanbkcjaaMd1
import Derived.Test.YtjobkhnanbkcjaaMc0
/- Words of 32 bits: what each function does. -/
set_option maxRecDepth 1000000
set_option linter.unusedSimpArgs false
set_option linter.unusedVariables false
namespace Go.Proofs.Ytjobkhnanbkcjaa.Cd
open Go Go.Dx
section
attribute [local congr] ite_ctx
variable {h : Hp} {q : Value → Hp → Prop} {a b : BitVec 32}
theorem word_less {s : Bool} : WC T n_word_Less [u32 a, u32 b, .bool s] h q ↔ q (.bool (less a b s)) h := by
  rw [w_word_Less]
  simp (maxSteps := 10000000) (disch := first | assumption | ((try simp only [push_next, put_next, adv_next, List.length_cons, List.length_nil, List.length_map, List.length_set]); omega) | simp) []
  cases s <;> simp [less, BitVec.lt_def]
theorem ir_one {s : Bool} : WC T n_ir_one [.bool s] h q ↔ q (u32 (b1 s)) h := by
  rw [w_ir_one]
  simp (maxSteps := 10000000) (disch := first | assumption | ((try simp only [push_next, put_next, adv_next, List.length_cons, List.length_nil, List.length_map, List.length_set]); omega) | simp) []
  cases s <;> simp [b1]
theorem word_sar {n : Int} : WC T n_word_Sar [u32 a, .int .i64 n] h q ↔ q (u32 (sar a (n % 32).toNat)) h := by
  rw [w_word_Sar]
  have h1 : ((n % 32).toNat : Int) = n % 32 := by omega
  have h2 := shr_i32 .i64 a (n % 32).toNat (by omega)
  rw [h1] at h2
  simp (maxSteps := 10000000) (disch := first | assumption | ((try simp only [push_next, put_next, adv_next, List.length_cons, List.length_nil, List.length_map, List.length_set]); omega) | simp) [and_31, h2, cvt_u32_i32]
theorem word_mul {s : Bool} : WC T n_word_Mul [u32 a, u32 b, .bool s] h q ↔ q (.tuple #[u32 (mulHi a b s), u32 (a * b)]) h := by
  rw [w_word_Mul]
  have h1 := mul_lo a b s
  simp (maxSteps := 10000000) (disch := first | assumption | ((try simp only [push_next, put_next, adv_next, List.length_cons, List.length_nil, List.length_map, List.length_set]); omega) | simp) [ofInt_wrap64, hi64, lo64, mul64]
  cases s <;> simp [mulHi, ← h1] <;> simp [mulI]
theorem word_div {s : Bool} : WC T n_word_Div [u32 a, u32 b, .bool s] h q ↔ q (.tuple #[u32 (divQ a b s), u32 (divR a b s)]) h := by
  rw [w_word_Div]
  by_cases hb : b = 0#32
  · simp (maxSteps := 10000000) (disch := first | assumption | ((try simp only [push_next, put_next, adv_next, List.length_cons, List.length_nil, List.length_map, List.length_set]); omega) | simp) [hb, divQ, divR]
  cases s
  · simp (maxSteps := 10000000) (disch := first | assumption | ((try simp only [push_next, put_next, adv_next, List.length_cons, List.length_nil, List.length_map, List.length_set]); omega) | simp) [hb, divQ, divR]
  · have hz := wide_zero b true hb
    have h1 := divQ_wide a b true hb
    have h2 := divR_wide a b true hb
    simp [wide] at hz h1 h2
    simp (maxSteps := 10000000) (disch := first | assumption | ((try simp only [push_next, put_next, adv_next, List.length_cons, List.length_nil, List.length_map, List.length_set]); omega) | simp) [hb, h1, h2, hz]
theorem ref_wide {s : Bool} : WC T n_pianolaref1_wide [u32 a, .bool s] h q ↔ q (.int .i64 (wide a s)) h := by
  rw [w_pianolaref1_wide]
  have hb := a.isLt
  cases s
  · simp (maxSteps := 10000000) (disch := first | assumption | ((try simp only [push_next, put_next, adv_next, List.length_cons, List.length_nil, List.length_map, List.length_set]); omega) | simp) [wide]
  · by_cases h1 : 2147483648 ≤ a.toNat
    · have h2 := toInt_of_ge a h1
      have h3 := toInt_bound a
      simp (maxSteps := 10000000) (disch := first | assumption | ((try simp only [push_next, put_next, adv_next, List.length_cons, List.length_nil, List.length_map, List.length_set]); omega) | simp) [wide, BitVec.le_def, h1, h2]
    · have h2 := toInt_of_lt a h1
      simp (maxSteps := 10000000) (disch := first | assumption | ((try simp only [push_next, put_next, adv_next, List.length_cons, List.length_nil, List.length_map, List.length_set]); omega) | simp) [wide, BitVec.le_def, h1, h2]
theorem ref_less {s : Bool} : WC T n_pianolaref1_Less [u32 a, u32 b, .bool s] h q ↔ q (.bool (less a b s)) h := by
  rw [w_pianolaref1_Less]
  simp (maxSteps := 10000000) (disch := first | assumption | ((try simp only [push_next, put_next, adv_next, List.length_cons, List.length_nil, List.length_map, List.length_set]); omega) | simp) [GC_of (fun q => ref_wide), less_wide]
theorem ref_mul {s : Bool} : WC T n_pianolaref1_Mul [u32 a, u32 b, .bool s] h q ↔ q (.tuple #[u32 (mulHi a b s), u32 (a * b)]) h := by
  rw [w_pianolaref1_Mul]
  have h1 := mul_lo a b false
  have e : mulHi a b false = BitVec.ofInt 32 (mulI a b false / 4294967296) := rfl
  cases s
  · simp (maxSteps := 10000000) (disch := first | assumption | ((try simp only [push_next, put_next, adv_next, List.length_cons, List.length_nil, List.length_map, List.length_set]); omega) | simp) [ofInt_wrap64, hi64, lo64, mul64, h1, e]
  · have h2 := mul_hi_ref a b
    by_cases ha : 2147483648 ≤ a.toNat <;> by_cases hb : 2147483648 ≤ b.toNat <;> simp only [ha, hb, if_true, if_false, BitVec.sub_zero] at h2 <;>
      simp (maxSteps := 10000000) (disch := first | assumption | ((try simp only [push_next, put_next, adv_next, List.length_cons, List.length_nil, List.length_map, List.length_set]); omega) | simp) [ofInt_wrap64, hi64, lo64, mul64, h1, BitVec.le_def, ha, hb, h2]
theorem ref_div {s : Bool} : WC T n_pianolaref1_Div [u32 a, u32 b, .bool s] h q ↔ q (.tuple #[u32 (divQ a b s), u32 (divR a b s)]) h := by
  rw [w_pianolaref1_Div]
  by_cases hb : b = 0#32
  · simp (maxSteps := 10000000) (disch := first | assumption | ((try simp only [push_next, put_next, adv_next, List.length_cons, List.length_nil, List.length_map, List.length_set]); omega) | simp) [hb, divQ, divR]
  · have hz := wide_zero b s hb
    simp (maxSteps := 10000000) (disch := first | assumption | ((try simp only [push_next, put_next, adv_next, List.length_cons, List.length_nil, List.length_map, List.length_set]); omega) | simp) [hb, GC_of (fun q => ref_wide), hz, divQ_wide a b s hb, divR_wide a b s hb]
theorem ref_bit {s : Bool} : WC T n_pianolaref18_bit [.bool s] h q ↔ q (u32 (b1 s)) h := by
  rw [w_pianolaref18_bit]
  simp (maxSteps := 10000000) (disch := first | assumption | ((try simp only [push_next, put_next, adv_next, List.length_cons, List.length_nil, List.length_map, List.length_set]); omega) | simp) []
  cases s <;> simp [b1]
end
end Go.Proofs.Ytjobkhnanbkcjaa.Cd

/- Small operations: what each function does. -/
set_option maxRecDepth 1000000
set_option maxHeartbeats 4000000
set_option linter.unusedSimpArgs false
set_option linter.unusedVariables false
namespace Go.Proofs.Ytjobkhnanbkcjaa.Cd
open Go Go.Dx
section
attribute [local congr] ite_ctx
variable {h : Hp} {q : Value → Hp → Prop} {a b : BitVec 32}
theorem len32 : WC T n_math_bits_Len32 [u32 a] h q ↔ q (.int .i64 (lenN a.toNat)) h := by
  have ha := a.isLt
  have fin : ∀ (w : BitVec 32) (k : Nat), w.toNat < 256 → k ≤ 24 → IntKind.i64.wrap ((k : Int) + IntKind.i64.wrap (lenN (BitVec.setWidth 8 w).toNat : Int)) = (k + lenN w.toNat : Nat) := fun w k hw hk => by
    have e : (BitVec.setWidth 8 w).toNat = w.toNat := by simp; omega
    have := lenN_le (n := w.toNat) (k := 8) (by omega)
    rw [e, wrap_i64 (n := (lenN w.toNat : Int)) (by omega) (by omega), wrap_i64 (by omega) (by omega)]
    omega
  have s16 : (a >>> 16).toNat = a.toNat >>> 16 := by simp
  have s24 : (a >>> 24).toNat = a.toNat >>> 24 := by simp
  have s8 : (a >>> 8).toNat = a.toNat >>> 8 := by simp
  rw [w_math_bits_Len32]
  by_cases h1 : 65536#32 ≤ a
  · have g1 : 65536 ≤ a.toNat := h1
    have l1 := lenN_shift (n := a.toNat) (k := 16) g1
    by_cases h2 : 256#32 ≤ a >>> 16
    · have g2 : 256 ≤ (a >>> 16).toNat := h2
      rw [s16] at g2
      have l2 := lenN_shift (n := a.toNat >>> 16) (k := 8) g2
      rw [← Nat.shiftRight_add] at l2
      have f := fin (a >>> 24) 24 (by rw [s24, Nat.shiftRight_eq_div_pow]; omega) (by omega)
      rw [s24] at f
      simp at f
      simp (maxSteps := 10000000) (disch := first | assumption | ((try simp only [push_next, put_next, adv_next, List.length_cons, List.length_nil, List.length_map, List.length_set]); omega) | simp) [h1, h2, len8, f]
      rw [l1, l2]
      simp [← Int.add_assoc]
    · have g2 : ¬ 256 ≤ (a >>> 16).toNat := h2
      have f := fin (a >>> 16) 16 (by omega) (by omega)
      rw [s16] at f
      simp at f
      simp (maxSteps := 10000000) (disch := first | assumption | ((try simp only [push_next, put_next, adv_next, List.length_cons, List.length_nil, List.length_map, List.length_set]); omega) | simp) [h1, h2, len8, f]
      rw [l1]
      simp
  · have g1 : ¬ 65536 ≤ a.toNat := h1
    by_cases h2 : 256#32 ≤ a
    · have g2 : 256 ≤ a.toNat := h2
      have l1 := lenN_shift (n := a.toNat) (k := 8) g2
      have f := fin (a >>> 8) 8 (by rw [s8, Nat.shiftRight_eq_div_pow]; omega) (by omega)
      rw [s8] at f
      simp at f
      simp (maxSteps := 10000000) (disch := first | assumption | ((try simp only [push_next, put_next, adv_next, List.length_cons, List.length_nil, List.length_map, List.length_set]); omega) | simp) [h1, h2, len8, f]
      rw [l1]
      simp
    · have g2 : ¬ 256 ≤ a.toNat := h2
      have f := fin a 0 (by omega) (by omega)
      simp at f
      simp (maxSteps := 10000000) (disch := first | assumption | ((try simp only [push_next, put_next, adv_next, List.length_cons, List.length_nil, List.length_map, List.length_set]); omega) | simp) [h1, h2, len8, f]
theorem lz32 : WC T n_math_bits_LeadingZeros32 [u32 a] h q ↔ q (.int .i64 (clz a)) h := by
  have h1 := lenN_le (n := a.toNat) (k := 32) (by have := a.isLt; omega)
  have e : IntKind.i64.wrap (32 - (lenN a.toNat : Int)) = (clz a : Int) := by
    rw [wrap_i64 (by omega) (by omega)]
    unfold clz
    omega
  rw [w_math_bits_LeadingZeros32]
  simp (maxSteps := 10000000) (disch := first | assumption | ((try simp only [push_next, put_next, adv_next, List.length_cons, List.length_nil, List.length_map, List.length_set]); omega) | simp) [GC_of (fun q => len32), e, -wrap_i64]
theorem word_clz : WC T n_word_Clz [u32 a] h q ↔ q (.int .i64 (clz a)) h := by
  rw [w_word_Clz]
  simp (maxSteps := 10000000) (disch := first | assumption | ((try simp only [push_next, put_next, adv_next, List.length_cons, List.length_nil, List.length_map, List.length_set]); omega) | simp) [GC_of (fun q => lz32)]
theorem word_clo : WC T n_word_Clo [u32 a] h q ↔ q (.int .i64 (clz (~~~ a))) h := by
  rw [w_word_Clo]
  simp (maxSteps := 10000000) (disch := first | assumption | ((try simp only [push_next, put_next, adv_next, List.length_cons, List.length_nil, List.length_map, List.length_set]); omega) | simp) [GC_of (fun q => lz32)]
end
section
attribute [local congr] ite_ctx
variable {h : Hp} {q : Value → Hp → Prop} {a b : BitVec 32} {o : IOp}
theorem ir_right0 : WC T n_ir_Right [.agg (encOp.enc o).toArray] h fun v h' => v = .bool (decide o.ok) ∧ h' = (h.push (.cells false (encOp.enc o))).push (.cells false [.int .i64 o.d, .int .i64 o.a, .int .i64 o.b]) := by
  rw [w_ir_Right]
  simp (maxSteps := 10000000) +contextual (disch := first | assumption | ((try simp only [push_next, put_next, adv_next, List.length_cons, List.length_nil, List.length_map, List.length_set]); omega) | simp) [-GG_bool, -GGI_bool, -GB_bool, GG_t, GG_f, GGI_t, GGI_f, GB_b, GB_n, GG_tn, GG_fn, encOp]
  generalize hH : (h.push (Ob.cells false [Value.int IntKind.i64 o.k, Value.int IntKind.i64 o.d, Value.int IntKind.i64 o.a, Value.int IntKind.i64 o.b, u32 o.imm])).push (Ob.cells false [Value.int IntKind.i64 o.d, Value.int IntKind.i64 o.a, Value.int IntKind.i64 o.b]) = H
  have g0 : H.get h.next = some (.cells false [Value.int IntKind.i64 o.k, Value.int IntKind.i64 o.d, Value.int IntKind.i64 o.a, Value.int IntKind.i64 o.b, u32 o.imm]) := by rw [← hH, get_push_ne (by simp), get_push_self]
  have g1 : H.get (h.next + 1) = some (.cells false [Value.int IntKind.i64 o.d, Value.int IntKind.i64 o.a, Value.int IntKind.i64 o.b]) := by
    rw [← hH]; exact get_push_self (h := h.push _)
  refine G_loop (fun n e h' => ∃ j : Nat, n = 3 - j ∧ j ≤ 3 ∧ h' = H ∧ e 1 = ptr h.next 0 ∧ e 11 = .slice (some ⟨h.next + 1, 0, none⟩) 3 3 ∧ e 12 = .int .i64 3 ∧ e 13 = .int .i64 j ∧ (0 < j → 0 ≤ o.d ∧ o.d < 40) ∧ (1 < j → 0 ≤ o.a ∧ o.a < 40) ∧ (2 < j → 0 ≤ o.b ∧ o.b < 40)) ?_ 3 _ _ ⟨0, by simp⟩
  rintro n ih e h' ⟨j, rfl, hj, rfl, e1, e11, e12, e13, i0, i1, i2⟩
  have hj' : j = 0 ∨ j = 1 ∨ j = 2 ∨ j = 3 := by omega
  rcases hj' with rfl | rfl | rfl | rfl
  · by_cases d0 : o.d < 0
    · have : ¬ o.ok := fun hh => by have := hh.1.1; omega
      simp (maxSteps := 10000000) +contextual (disch := first | assumption | ((try simp only [push_next, put_next, adv_next, List.length_cons, List.length_nil, List.length_map, List.length_set]); omega) | simp) [-GG_bool, -GGI_bool, -GB_bool, GG_t, GG_f, GGI_t, GGI_f, GB_b, GB_n, GG_tn, GG_fn, e1, e11, e12, e13, g0, g1, d0, this]
    by_cases d1 : 40 ≤ o.d
    · have : ¬ o.ok := fun hh => by have := hh.1.2; omega
      simp (maxSteps := 10000000) +contextual (disch := first | assumption | ((try simp only [push_next, put_next, adv_next, List.length_cons, List.length_nil, List.length_map, List.length_set]); omega) | simp) [-GG_bool, -GGI_bool, -GB_bool, GG_t, GG_f, GGI_t, GGI_f, GB_b, GB_n, GG_tn, GG_fn, e1, e11, e12, e13, g0, g1, d0, d1, this]
    simp (maxSteps := 10000000) +contextual (disch := first | assumption | ((try simp only [push_next, put_next, adv_next, List.length_cons, List.length_nil, List.length_map, List.length_set]); omega) | simp) [-GG_bool, -GGI_bool, -GB_bool, GG_t, GG_f, GGI_t, GGI_f, GB_b, GB_n, GG_tn, GG_fn, e1, e11, e12, e13, g0, g1, d0, d1]
    exact ih 2 (by omega) _ _ ⟨1, by simp [e1, e11, e12, e13]; omega⟩
  · by_cases d0 : o.a < 0
    · have : ¬ o.ok := fun hh => by have := hh.2.1.1; omega
      simp (maxSteps := 10000000) +contextual (disch := first | assumption | ((try simp only [push_next, put_next, adv_next, List.length_cons, List.length_nil, List.length_map, List.length_set]); omega) | simp) [-GG_bool, -GGI_bool, -GB_bool, GG_t, GG_f, GGI_t, GGI_f, GB_b, GB_n, GG_tn, GG_fn, e1, e11, e12, e13, g0, g1, d0, this]
    by_cases d1 : 40 ≤ o.a
    · have : ¬ o.ok := fun hh => by have := hh.2.1.2; omega
      simp (maxSteps := 10000000) +contextual (disch := first | assumption | ((try simp only [push_next, put_next, adv_next, List.length_cons, List.length_nil, List.length_map, List.length_set]); omega) | simp) [-GG_bool, -GGI_bool, -GB_bool, GG_t, GG_f, GGI_t, GGI_f, GB_b, GB_n, GG_tn, GG_fn, e1, e11, e12, e13, g0, g1, d0, d1, this]
    simp (maxSteps := 10000000) +contextual (disch := first | assumption | ((try simp only [push_next, put_next, adv_next, List.length_cons, List.length_nil, List.length_map, List.length_set]); omega) | simp) [-GG_bool, -GGI_bool, -GB_bool, GG_t, GG_f, GGI_t, GGI_f, GB_b, GB_n, GG_tn, GG_fn, e1, e11, e12, e13, g0, g1, d0, d1]
    exact ih 1 (by omega) _ _ ⟨2, by simp [e1, e11, e12, e13]; omega⟩
  · by_cases d0 : o.b < 0
    · have : ¬ o.ok := fun hh => by have := hh.2.2.1.1; omega
      simp (maxSteps := 10000000) +contextual (disch := first | assumption | ((try simp only [push_next, put_next, adv_next, List.length_cons, List.length_nil, List.length_map, List.length_set]); omega) | simp) [-GG_bool, -GGI_bool, -GB_bool, GG_t, GG_f, GGI_t, GGI_f, GB_b, GB_n, GG_tn, GG_fn, e1, e11, e12, e13, g0, g1, d0, this]
    by_cases d1 : 40 ≤ o.b
    · have : ¬ o.ok := fun hh => by have := hh.2.2.1.2; omega
      simp (maxSteps := 10000000) +contextual (disch := first | assumption | ((try simp only [push_next, put_next, adv_next, List.length_cons, List.length_nil, List.length_map, List.length_set]); omega) | simp) [-GG_bool, -GGI_bool, -GB_bool, GG_t, GG_f, GGI_t, GGI_f, GB_b, GB_n, GG_tn, GG_fn, e1, e11, e12, e13, g0, g1, d0, d1, this]
    simp (maxSteps := 10000000) +contextual (disch := first | assumption | ((try simp only [push_next, put_next, adv_next, List.length_cons, List.length_nil, List.length_map, List.length_set]); omega) | simp) [-GG_bool, -GGI_bool, -GB_bool, GG_t, GG_f, GGI_t, GGI_f, GB_b, GB_n, GG_tn, GG_fn, e1, e11, e12, e13, g0, g1, d0, d1]
    exact ih 0 (by omega) _ _ ⟨3, by simp [e1, e11, e12, e13]; omega⟩
  · have j0 := i0 (by omega)
    have j1 := i1 (by omega)
    have j2 := i2 (by omega)
    by_cases k0 : 0 ≤ o.k
    · by_cases k1 : o.k ≤ 22 <;> simp (maxSteps := 10000000) +contextual (disch := first | assumption | ((try simp only [push_next, put_next, adv_next, List.length_cons, List.length_nil, List.length_map, List.length_set]); omega) | simp) [-GG_bool, -GGI_bool, -GB_bool, GG_t, GG_f, GGI_t, GGI_f, GB_b, GB_n, GG_tn, GG_fn, e1, e11, e12, e13, g0, g1, k0, k1, IOp.ok, j0, j1, j2]
    · simp (maxSteps := 10000000) +contextual (disch := first | assumption | ((try simp only [push_next, put_next, adv_next, List.length_cons, List.length_nil, List.length_map, List.length_set]); omega) | simp) [-GG_bool, -GGI_bool, -GB_bool, GG_t, GG_f, GGI_t, GGI_f, GB_b, GB_n, GG_tn, GG_fn, e1, e11, e12, e13, g0, g1, k0, IOp.ok, j0, j1, j2]
theorem ir_right : WC T n_ir_Right [.agg (encOp.enc o).toArray] h q ↔ q (.bool (decide o.ok)) ((h.push (.cells false (encOp.enc o))).push (.cells false [.int .i64 o.d, .int .i64 o.a, .int .i64 o.b])) := WC_iff ir_right0 q
theorem ref_right : WC T n_pianolaref18_Right [.agg (encOp.enc o).toArray] h q ↔ q (.bool (decide o.ok)) (h.push (.cells false (encOp.enc o))) := by
  rw [w_pianolaref18_Right]
  simp (maxSteps := 10000000) +contextual (disch := first | assumption | ((try simp only [push_next, put_next, adv_next, List.length_cons, List.length_nil, List.length_map, List.length_set]); omega) | simp) [-GG_bool, -GGI_bool, -GB_bool, GG_t, GG_f, GGI_t, GGI_f, GB_b, GB_n, GG_tn, GG_fn, encOp]
  by_cases k0 : 0 ≤ o.k <;> by_cases k1 : o.k ≤ 22 <;> by_cases d0 : 0 ≤ o.d <;> by_cases d1 : o.d < 40 <;> by_cases a0 : 0 ≤ o.a <;> by_cases a1 : o.a < 40 <;> by_cases b0 : 0 ≤ o.b <;> simp [IOp.ok, *]
theorem and_31n (n : Nat) : n &&& 31 = n % 32 := Nat.and_two_pow_sub_one_eq_mod n 5
theorem mod_32n (n : Nat) : (((n % 32 : Nat) : Int) % 32).toNat = n % 32 := by omega
theorem of_kinds (k : Int) : k = 1 ∨ k = 3 ∨ k = 4 ∨ k = 5 ∨ k = 6 ∨ k = 7 ∨ k = 8 ∨ k = 9 ∨ k = 10 ∨ k = 11 ∨ k = 12 ∨ k = 13 ∨ k = 14 ∨ k = 15 ∨ k = 16 ∨ (k ≠ 1 ∧ k ≠ 3 ∧ k ≠ 4 ∧ k ≠ 5 ∧ k ≠ 6 ∧ k ≠ 7 ∧ k ≠ 8 ∧ k ≠ 9 ∧ k ≠ 10 ∧ k ≠ 11 ∧ k ≠ 12 ∧ k ≠ 13 ∧ k ≠ 14 ∧ k ≠ 15 ∧ k ≠ 16) := by omega
theorem ir_of : WC T n_ir_of [.agg (encOp.enc o).toArray, u32 a, u32 b] h q ↔ q (u32 (iof o a b)) (h.push (.cells false (encOp.enc o))) := by
  rw [w_ir_of]
  rcases of_kinds o.k with hk | hk | hk | hk | hk | hk | hk | hk | hk | hk | hk | hk | hk | hk | hk | hk <;>
  simp (maxSteps := 10000000) (disch := first | assumption | ((try simp only [push_next, put_next, adv_next, List.length_cons, List.length_nil, List.length_map, List.length_set]); omega) | simp) [encOp, hk, iof, GC_of (fun q => word_sar), GC_of (fun q => word_less), GC_of (fun q => ir_one), GC_of (fun q => word_clz), GC_of (fun q => word_clo), and_31n, mod_32n, -Int.natCast_emod]
end
end Go.Proofs.Ytjobkhnanbkcjaa.Cd

/- Small operations done one by one. -/
set_option maxRecDepth 1000000
set_option maxHeartbeats 4000000
set_option linter.unusedSimpArgs false
set_option linter.unusedVariables false
namespace Go.Proofs.Ytjobkhnanbkcjaa.Cd
open Go Go.Dx
section
variable {h : Hp} {q : Value → Hp → Prop} {a b : BitVec 32} {o : IOp} {R : Regs} {c : Nat}
theorem upd_one {g h : Hp} {c : Nat} {C : Option Ob} (hg : ∀ b, b < h.next → b ≠ c → g.get b = h.get b) (hn : h.next ≤ g.next) : Upd h (g.put c C) [c] [c] := ⟨by simp; exact hn, fun b hb hbc => by
    simp at hbc
    rw [get_put_ne hbc]; exact hg b hb hbc, fun b hb => .inl hb⟩
theorem ir_doK {P : List Value} {k : Nat} (hk : P.length = k) (ho : o.ok) (hR : R.length = 40) (hg0 : h.get c = some (.cells false (P ++ R.map u32))) (hq : ∀ h', h'.get c = some (.cells false (P ++ (ido R o).map u32)) → Upd h h' [c] [c] → q (.tuple #[]) h') :
    WC T n_ir_Regs_do [ptr c k, .agg (encOp.enc o).toArray] h q := by
  obtain ⟨⟨d0, d1⟩, ⟨a0, a1⟩, ⟨b0, b1⟩, k0, k1⟩ := id ho
  obtain ⟨X, hXe⟩ : ∃ X, X = P ++ R.map u32 := ⟨_, rfl⟩
  have hX : X.length = k + 40 := by rw [hXe]; simp [hk, hR]
  have hg : h.get c = some (.cells false X) := by rw [hXe]; exact hg0
  have hat : ∀ i : Int, 0 ≤ i → i < 40 → X[k + i.toNat]? = some (u32 (rg R i)) := fun i h0 h1 => by
    rw [hXe, List.getElem?_append_right (by omega), ← hk, Nat.add_sub_cancel_left, List.getElem?_map, rg_at h0 (by omega)]; rfl
  have hset : ∀ (n : Nat) (v : BitVec 32) (Q : List Value), (P ++ Q).set (k + n) (u32 v) = P ++ Q.set n (u32 v) := fun n v Q => by
    rw [List.set_append_right _ _ (by omega), ← hk, Nat.add_sub_cancel_left]
  have hlt := lt_of_get hg
  have hat2 : ∀ i : Int, 0 ≤ i → i < 40 → ∀ hh : k + i.toNat < X.length, X[k + i.toNat]'hh = u32 (rg R i) := fun i h0 h1 hh => by
    have := hat i h0 h1
    rw [List.getElem?_eq_getElem hh] at this
    simpa using this
  have ra := hat2 o.a a0 a1
  have rb := hat2 o.b b0 b1
  have o1 := fun (l : List Value) n v => over_set (l := l) (i := n) (v := v)
  have dl : o.d ≤ 39 := by omega
  have dl' : o.d.toNat < 40 := by omega
  rw [w_ir_Regs_do]
  have fact : ∀ (g : Hp) (C : List Value), (∀ b, b < h.next → b ≠ c → g.get b = h.get b) → h.next ≤ g.next → C = P ++ (ido R o).map u32 → q (.tuple #[]) (g.put c (some (.cells false C))) := fun g C h1 h2 h3 => by
    subst h3
    exact hq _ (get_put_self (by omega)) (upd_one h1 h2)
  have cases4 : (o.k = 17 ∨ o.k = 18) ∨ (o.k = 19 ∨ o.k = 20) ∨ ((o.k ≠ 17 ∧ o.k ≠ 18 ∧ o.k ≠ 19 ∧ o.k ≠ 20) ∧ (o.k = 0 ∨ o.d = 0 ∨ (o.k = 21 ∧ rg R o.b ≠ 0#32) ∨ (o.k = 22 ∧ rg R o.b = 0#32))) ∨ ((o.k ≠ 17 ∧ o.k ≠ 18 ∧ o.k ≠ 19 ∧ o.k ≠ 20) ∧ ¬ (o.k = 0 ∨ o.d = 0 ∨ (o.k = 21 ∧ rg R o.b ≠ 0#32) ∨ (o.k = 22 ∧ rg R o.b = 0#32))) := by
    by_cases h1 : o.k = 17 ∨ o.k = 18
    · exact .inl h1
    by_cases h2 : o.k = 19 ∨ o.k = 20
    · exact .inr (.inl h2)
    by_cases h3 : o.k = 0 ∨ o.d = 0 ∨ (o.k = 21 ∧ rg R o.b ≠ 0#32) ∨ (o.k = 22 ∧ rg R o.b = 0#32)
    · exact .inr (.inr (.inl ⟨by omega, h3⟩))
    · exact .inr (.inr (.inr ⟨by omega, h3⟩))
  rcases cases4 with hk' | hk' | ⟨hk', hs⟩ | ⟨hk', hs⟩
  · rcases hk' with hk' | hk' <;>
    · simp (maxSteps := 10000000) (disch := first | assumption | ((try simp only [push_next, put_next, adv_next, List.length_cons, List.length_nil, List.length_map, List.length_set]); omega) | simp) [encOp, hk', hg, ra, rb, hR, hX, -over, o1, GC_of (fun q => word_mul)]
      refine fact _ _ ?_ ?_ ?_
      · intro b hb hbc; rw [get_push_ne (by omega)]
      · simp
      · rw [hXe]; simp [ido, hk', hset]
  · rcases hk' with hk' | hk' <;>
    · simp (maxSteps := 10000000) (disch := first | assumption | ((try simp only [push_next, put_next, adv_next, List.length_cons, List.length_nil, List.length_map, List.length_set]); omega) | simp) [encOp, hk', hg, ra, rb, hR, hX, -over, o1, GC_of (fun q => word_div)]
      refine fact _ _ ?_ ?_ ?_
      · intro b hb hbc; rw [get_push_ne (by omega)]
      · simp
      · rw [hXe]; simp [ido, hk', hset]
  · have hd : ido R o = R := by unfold ido; rw [if_neg (by omega), if_neg (by omega), if_pos hs]
    have fin' : q (.tuple #[]) (h.push (.cells false (encOp.enc o))) := hq _ (by rw [get_push_ne (by omega), hg0, hd]) ⟨by simp, fun b hb _ => get_push_ne (by omega), fun b hb => .inl hb⟩
    simp only [encOp] at fin'
    by_cases z0 : o.k = 0
    · simp (maxSteps := 10000000) (disch := first | assumption | ((try simp only [push_next, put_next, adv_next, List.length_cons, List.length_nil, List.length_map, List.length_set]); omega) | simp) [encOp, z0, hg, ra, rb, hR, hX, -over]
      simpa [z0] using fin'
    by_cases z1 : o.d = 0
    · simp (maxSteps := 10000000) (disch := first | assumption | ((try simp only [push_next, put_next, adv_next, List.length_cons, List.length_nil, List.length_map, List.length_set]); omega) | simp) [encOp, z0, z1, hk', hg, ra, rb, hR, hX, -over]
      simpa [z1] using fin'
    rcases hs with hs | hs | ⟨z2, z3⟩ | ⟨z2, z3⟩
    · exact absurd hs z0
    · exact absurd hs z1
    · simp (maxSteps := 10000000) (disch := first | assumption | ((try simp only [push_next, put_next, adv_next, List.length_cons, List.length_nil, List.length_map, List.length_set]); omega) | simp) [encOp, z1, z2, z3, hg, ra, rb, hR, hX, -over]
      simpa [z2] using fin'
    · simp (maxSteps := 10000000) (disch := first | assumption | ((try simp only [push_next, put_next, adv_next, List.length_cons, List.length_nil, List.length_map, List.length_set]); omega) | simp) [encOp, z1, z2, z3, hg, ra, rb, hR, hX, -over]
      simpa [z2] using fin'
  · have hd : ido R o = R.set o.d.toNat (iof o (rg R o.a) (rg R o.b)) := by unfold ido; rw [if_neg (by omega), if_neg (by omega), if_neg hs]
    have z0 : o.k ≠ 0 := fun hh => hs (.inl hh)
    have z1 : o.d ≠ 0 := fun hh => hs (.inr (.inl hh))
    have done : ∀ (g : Hp) (C : List Value), g = ((h.push (.cells false (encOp.enc o))).push (.cells false (encOp.enc o))) → C = P ++ (R.set o.d.toNat (iof o (rg R o.a) (rg R o.b))).map u32 → q (.tuple #[]) (g.put c (some (.cells false C))) := fun g C e1 e2 => by
      subst e1
      exact fact _ _ (fun b hb hbc => by rw [get_push_ne (by simp; omega), get_push_ne (by omega)]) (by simp; omega) (by rw [e2, hd])
    have irof := fun (h : Hp) (q : Value → Hp → Prop) (a b : BitVec 32) => ir_of (h := h) (q := q) (a := a) (b := b) (o := o)
    simp only [encOp] at irof
    by_cases z2 : o.k = 21 ∨ o.k = 22
    · by_cases z3 : rg R o.b = 0#32
      · have z4 : o.k = 21 := by
          rcases z2 with z2 | z2
          · exact z2
          · exact absurd (.inr (.inr (.inr ⟨z2, z3⟩))) hs
        simp only [z4] at irof done
        simp (maxSteps := 10000000) (disch := first | assumption | ((try simp only [push_next, put_next, adv_next, List.length_cons, List.length_nil, List.length_map, List.length_set]); omega) | simp) [encOp, z4, z1, z3, hg, ra, rb, hR, hX, dl, Hp.rdn, -over, o1, GCI_of (fun q => irof _ q _ _), GC_of (fun q => irof _ q _ _)]
        refine done _ _ ?_ ?_
        · simp [encOp, z4]
        · rw [hXe]; simp [z3, hset]
      · have z4 : o.k = 22 := by
          rcases z2 with z2 | z2
          · exact absurd (.inr (.inr (.inl ⟨z2, z3⟩))) hs
          · exact z2
        simp only [z4] at irof done
        simp (maxSteps := 10000000) (disch := first | assumption | ((try simp only [push_next, put_next, adv_next, List.length_cons, List.length_nil, List.length_map, List.length_set]); omega) | simp) [encOp, z4, z1, z3, hg, ra, rb, hR, hX, dl, Hp.rdn, -over, o1, GCI_of (fun q => irof _ q _ _), GC_of (fun q => irof _ q _ _)]
        refine done _ _ ?_ ?_
        · simp [encOp, z4]
        · rw [hXe]; simp [hset]
    · have z3 : o.k ≠ 21 ∧ o.k ≠ 22 := by omega
      simp (maxSteps := 10000000) (disch := first | assumption | ((try simp only [push_next, put_next, adv_next, List.length_cons, List.length_nil, List.length_map, List.length_set]); omega) | simp) [encOp, hk', z0, z1, z3, hg, ra, rb, hR, hX, dl, Hp.rdn, -over, o1, GCI_of (fun q => irof _ q _ _), GC_of (fun q => irof _ q _ _)]
      refine done _ _ ?_ ?_
      · simp [encOp]
      · rw [hXe]; simp [hset]
theorem ir_do (ho : o.ok) (hR : R.length = 40) (hg : h.get c = some (.cells false (R.map u32))) (hq : ∀ h', h'.get c = some (.cells false ((ido R o).map u32)) → Upd h h' [c] [c] → q (.tuple #[]) h') :
    WC T n_ir_Regs_do [ptr c 0, .agg (encOp.enc o).toArray] h q := ir_doK (P := []) (k := 0) rfl ho hR (by simpa using hg) fun h' g u => hq h' (by simpa using g) u
end
end Go.Proofs.Ytjobkhnanbkcjaa.Cd

/- Is there one in a row? -/
set_option maxRecDepth 1000000
set_option maxHeartbeats 4000000
set_option linter.unusedSimpArgs false
set_option linter.unusedVariables false
namespace Go.Proofs.Ytjobkhnanbkcjaa.Cd
open Go Go.Dx
section
variable {h : Hp} {a : Option Addr} {c fc : Nat} {caps : Array Value} {xs : List IOp} {p : IOp → Bool} {q : Value → Hp → Prop}
theorem indexF_op (hs : Sees encOp h a xs) (hb : xs.length < 2 ^ 63) (hc : ∀ x ∈ xs, ∀ h1, Kp h h1 → WC T fc ([.agg (encOp.enc x).toArray] ++ caps.toList) h1 fun v h2 => v = .bool (p x) ∧ Kp h1 h2) :
    WC T n_slices_IndexFunc_ir_Op_ir_Op [.slice a xs.length c, .func (.func fc) #[] caps] h fun v h' => v = .int .i64 (fidx p xs 0) ∧ Kp h h' := by
  rw [w_slices_IndexFunc_ir_Op_ir_Op]
  simp (maxSteps := 10000000) (disch := first | assumption | ((try simp only [push_next, put_next, adv_next, List.length_cons, List.length_nil, List.length_map, List.length_set]); omega) | simp)
  refine G_loop (fun n e h' => ∃ us vs, n = vs.length ∧ xs = us ++ vs ∧ (∀ x ∈ us, p x = false) ∧ Kp h h' ∧ e 0 = .slice a xs.length c ∧ e 1 = .func (.func fc) #[] caps ∧ e 7 = .int .i64 xs.length ∧ e 8 = .int .i64 us.length) ?_ xs.length _ _ ⟨[], xs, rfl, rfl, by simp, .refl _, by simp, by simp, by simp, by simp⟩
  rintro n ih e h' ⟨us, vs, rfl, hx, hu, K, e0, e1, e7, e8⟩
  cases vs with
  | nil =>
    have hl : xs.length = us.length := by rw [hx]; simp
    have hf : fidx p xs 0 = -1 := by rw [hx, fidx_skip p us [] 0 hu]; rfl
    simp (maxSteps := 10000000) (disch := first | assumption | ((try simp only [push_next, put_next, adv_next, List.length_cons, List.length_nil, List.length_map, List.length_set]); omega) | simp) [e0, e1, e7, e8, hl]
    exact ⟨hf.symm, K⟩
  | cons x vs =>
    have hl : us.length < xs.length := by rw [hx]; simp
    have hl' : (us.length : Int) < xs.length := by omega
    obtain ⟨A, rfl, hr⟩ := Sees.mid (A := us) (x := x) (B := vs) (by rw [← hx]; exact hs)
    have hr' : h'.rdn A.block (A.off + us.length * 5) 5 = some (encOp.enc x) := rdn_kp hr (K.get _ (lt_of_rdn hr))
    
    simp (maxSteps := 10000000) (disch := first | assumption | ((try simp only [push_next, put_next, adv_next, List.length_cons, List.length_nil, List.length_map, List.length_set]); omega) | simp) [e0, e1, e7, e8, hl', hr']
    refine GC_intro (hc x (by rw [hx]; simp) h' K) fun v h2 ⟨hv, K2⟩ => ?_
    subst hv
    by_cases hp : p x = true
    · have hf : fidx p xs 0 = us.length := by rw [hx, fidx_skip p us _ 0 hu]; simp [fidx, hp]
      simp (maxSteps := 10000000) (disch := first | assumption | ((try simp only [push_next, put_next, adv_next, List.length_cons, List.length_nil, List.length_map, List.length_set]); omega) | simp) [hp]
      exact ⟨hf.symm, K.trans K2⟩
    · simp (maxSteps := 10000000) (disch := first | assumption | ((try simp only [push_next, put_next, adv_next, List.length_cons, List.length_nil, List.length_map, List.length_set]); omega) | simp) [hp, e8]
      refine ih vs.length (by simp) _ _ ⟨us ++ [x], vs, rfl, by rw [hx]; simp, fun y hy => ?_, K.trans K2, by simp [e0], by simp [e1], by simp [e7], by simp⟩
      rcases List.mem_append.1 hy with h1 | h1
      · exact hu y h1
      · simp at h1; subst h1; simpa using hp
theorem contains_op (hs : Sees encOp h a xs) (hb : xs.length < 2 ^ 63) (hc : ∀ x ∈ xs, ∀ h1, Kp h h1 → WC T fc ([.agg (encOp.enc x).toArray] ++ caps.toList) h1 fun v h2 => v = .bool (p x) ∧ Kp h1 h2) :
    WC T n_slices_ContainsFunc_ir_Op_ir_Op [.slice a xs.length c, .func (.func fc) #[] caps] h fun v h' => v = .bool (xs.any p) ∧ Kp h h' := by
  rw [w_slices_ContainsFunc_ir_Op_ir_Op]
  simp (maxSteps := 10000000) (disch := first | assumption | ((try simp only [push_next, put_next, adv_next, List.length_cons, List.length_nil, List.length_map, List.length_set]); omega) | simp)
  refine GC_intro (indexF_op hs hb hc) fun v h2 ⟨hv, K2⟩ => ?_
  subst hv
  simp (maxSteps := 10000000) (disch := first | assumption | ((try simp only [push_next, put_next, adv_next, List.length_cons, List.length_nil, List.length_map, List.length_set]); omega) | simp) [fidx_any]
  exact K2
end
end Go.Proofs.Ytjobkhnanbkcjaa.Cd

/- Is there one in a row? -/
set_option maxRecDepth 1000000
set_option maxHeartbeats 4000000
set_option linter.unusedSimpArgs false
set_option linter.unusedVariables false
namespace Go.Proofs.Ytjobkhnanbkcjaa.Cd
open Go Go.Dx
section
variable {h : Hp} {a : Option Addr} {c fc : Nat} {caps : Array Value} {xs : List Int} {p : Int → Bool} {q : Value → Hp → Prop}
theorem indexF_int (hs : Sees encZ h a xs) (hb : xs.length < 2 ^ 63) (hc : ∀ x ∈ xs, ∀ h1, Kp h h1 → WC T fc ([.int .i64 x] ++ caps.toList) h1 fun v h2 => v = .bool (p x) ∧ Kp h1 h2) :
    WC T n_slices_IndexFunc_int_int [.slice a xs.length c, .func (.func fc) #[] caps] h fun v h' => v = .int .i64 (fidx p xs 0) ∧ Kp h h' := by
  rw [w_slices_IndexFunc_int_int]
  simp (maxSteps := 10000000) (disch := first | assumption | ((try simp only [push_next, put_next, adv_next, List.length_cons, List.length_nil, List.length_map, List.length_set]); omega) | simp)
  refine G_loop (fun n e h' => ∃ us vs, n = vs.length ∧ xs = us ++ vs ∧ (∀ x ∈ us, p x = false) ∧ Kp h h' ∧ e 0 = .slice a xs.length c ∧ e 1 = .func (.func fc) #[] caps ∧ e 7 = .int .i64 xs.length ∧ e 8 = .int .i64 us.length) ?_ xs.length _ _ ⟨[], xs, rfl, rfl, by simp, .refl _, by simp, by simp, by simp, by simp⟩
  rintro n ih e h' ⟨us, vs, rfl, hx, hu, K, e0, e1, e7, e8⟩
  cases vs with
  | nil =>
    have hl : xs.length = us.length := by rw [hx]; simp
    have hf : fidx p xs 0 = -1 := by rw [hx, fidx_skip p us [] 0 hu]; rfl
    simp (maxSteps := 10000000) (disch := first | assumption | ((try simp only [push_next, put_next, adv_next, List.length_cons, List.length_nil, List.length_map, List.length_set]); omega) | simp) [e0, e1, e7, e8, hl]
    exact ⟨hf.symm, K⟩
  | cons x vs =>
    have hl : us.length < xs.length := by rw [hx]; simp
    have hl' : (us.length : Int) < xs.length := by omega
    obtain ⟨A, rfl, hr⟩ := Sees.mid (A := us) (x := x) (B := vs) (by rw [← hx]; exact hs)
    have hr' : h'.rdn A.block (A.off + us.length * 1) 1 = some (encZ.enc x) := rdn_kp hr (K.get _ (lt_of_rdn hr))
    obtain ⟨ro, C, hg, hC⟩ := rdn_cells hr'
    have hC0 := hC 0 (by decide)
    simp [encZ] at hC0
    simp (maxSteps := 10000000) (disch := first | assumption | ((try simp only [push_next, put_next, adv_next, List.length_cons, List.length_nil, List.length_map, List.length_set]); omega) | simp) [e0, e1, e7, e8, hl', hg, hC0]
    refine GC_intro (hc x (by rw [hx]; simp) h' K) fun v h2 ⟨hv, K2⟩ => ?_
    subst hv
    by_cases hp : p x = true
    · have hf : fidx p xs 0 = us.length := by rw [hx, fidx_skip p us _ 0 hu]; simp [fidx, hp]
      simp (maxSteps := 10000000) (disch := first | assumption | ((try simp only [push_next, put_next, adv_next, List.length_cons, List.length_nil, List.length_map, List.length_set]); omega) | simp) [hp]
      exact ⟨hf.symm, K.trans K2⟩
    · simp (maxSteps := 10000000) (disch := first | assumption | ((try simp only [push_next, put_next, adv_next, List.length_cons, List.length_nil, List.length_map, List.length_set]); omega) | simp) [hp, e8]
      refine ih vs.length (by simp) _ _ ⟨us ++ [x], vs, rfl, by rw [hx]; simp, fun y hy => ?_, K.trans K2, by simp [e0], by simp [e1], by simp [e7], by simp⟩
      rcases List.mem_append.1 hy with h1 | h1
      · exact hu y h1
      · simp at h1; subst h1; simpa using hp
theorem contains_int (hs : Sees encZ h a xs) (hb : xs.length < 2 ^ 63) (hc : ∀ x ∈ xs, ∀ h1, Kp h h1 → WC T fc ([.int .i64 x] ++ caps.toList) h1 fun v h2 => v = .bool (p x) ∧ Kp h1 h2) :
    WC T n_slices_ContainsFunc_int_int [.slice a xs.length c, .func (.func fc) #[] caps] h fun v h' => v = .bool (xs.any p) ∧ Kp h h' := by
  rw [w_slices_ContainsFunc_int_int]
  simp (maxSteps := 10000000) (disch := first | assumption | ((try simp only [push_next, put_next, adv_next, List.length_cons, List.length_nil, List.length_map, List.length_set]); omega) | simp)
  refine GC_intro (indexF_int hs hb hc) fun v h2 ⟨hv, K2⟩ => ?_
  subst hv
  simp (maxSteps := 10000000) (disch := first | assumption | ((try simp only [push_next, put_next, adv_next, List.length_cons, List.length_nil, List.length_map, List.length_set]); omega) | simp) [fidx_any]
  exact K2
end
end Go.Proofs.Ytjobkhnanbkcjaa.Cd

/- Rows of small operations: what the program does with them. -/
set_option maxRecDepth 1000000
set_option maxHeartbeats 4000000
set_option linter.unusedSimpArgs false
set_option linter.unusedVariables false
namespace Go.Proofs.Ytjobkhnanbkcjaa.Cd
open Go Go.Dx
section
variable {h : Hp} {q : Value → Hp → Prop} {o : IOp} {R : Regs} {c cp : Nat} {a : Option Addr} {L : List IOp}
theorem run_1 : WC T n_ir_Run_1 [.agg (encOp.enc o).toArray] h fun v h' => v = .bool (!decide o.ok) ∧ Kp h h' := by
  rw [w_ir_Run_1]
  simp (maxSteps := 10000000) (disch := first | assumption | ((try simp only [push_next, put_next, adv_next, List.length_cons, List.length_nil, List.length_map, List.length_set]); omega) | simp) [encOp, Hp.rdn]
  refine GC_intro ((ir_right (o := o) (q := fun v h' => v = .bool (decide o.ok) ∧ Kp h h')).2 ⟨rfl, ?_⟩) fun v h2 ⟨hv, K⟩ => ?_
  · exact (((Kp.refl h).push _).push _).push _
  · subst hv
    simp (maxSteps := 10000000) (disch := first | assumption | ((try simp only [push_next, put_next, adv_next, List.length_cons, List.length_nil, List.length_map, List.length_set]); omega) | simp)
    exact K
theorem notok_any : (L.any fun o => !decide o.ok) = !decide (oks L) := by
  by_cases h : oks L
  · simp only [h, decide_true, Bool.not_true]
    rw [Bool.eq_false_iff]
    intro h1
    obtain ⟨o, h2, h3⟩ := List.any_eq_true.1 h1
    simp [h o h2] at h3
  · simp only [h, decide_false, Bool.not_false]
    apply Classical.byContradiction
    intro h1
    apply h
    intro o ho
    apply Classical.byContradiction
    intro h2
    exact h1 (List.any_eq_true.2 ⟨o, ho, by simp [h2]⟩)
theorem ir_contains (hs : Sees encOp h a L) (hb : L.length < 2 ^ 63) : WC T n_slices_ContainsFunc_ir_Op_ir_Op [.slice a L.length cp, .func (.func n_ir_Run_1) #[] #[]] h fun v h' => v = .bool (!decide (oks L)) ∧ Kp h h' := by
  have := contains_op (c := cp) (fc := n_ir_Run_1) (caps := #[]) (p := fun o => !decide o.ok) hs hb fun x _ h1 _ => run_1
  rw [notok_any] at this
  exact this
theorem ir_runK {P : List Value} {k : Nat} (hk : P.length = k) (hR : R.length = 40) (hg : h.get c = some (.cells false (P ++ R.map u32))) (hs : Sees encOp h a L) (hac : ∀ A, a = some A → A.block ≠ c) (hb : L.length < 2 ^ 63)
    (hq : ∀ h', h'.get c = some (.cells false (P ++ (if oks L then irun (R.set 0 0#32) L else R).map u32)) → Upd h h' [c] [c] → q (.bool (decide (oks L))) h') : WC T n_ir_Run [ptr c k, .slice a L.length cp] h q := by
  have hlt := lt_of_get hg
  rw [w_ir_Run]
  simp (maxSteps := 10000000) (disch := first | assumption | ((try simp only [push_next, put_next, adv_next, List.length_cons, List.length_nil, List.length_map, List.length_set]); omega) | simp)
  refine GC_intro (ir_contains hs hb) fun v h1 ⟨hv, K1⟩ => ?_
  subst hv
  have hg1 : h1.get c = some (.cells false (P ++ R.map u32)) := by rw [K1.get c hlt, hg]
  have hlt1 := lt_of_get hg1
  by_cases hok : oks L
  case neg =>
    simp (maxSteps := 10000000) (disch := first | assumption | ((try simp only [push_next, put_next, adv_next, List.length_cons, List.length_nil, List.length_map, List.length_set]); omega) | simp) [hok]
    have := hq h1 (by rw [if_neg hok, hg1]) (K1.upd _)
    simpa [hok] using this
  rw [if_pos hok] at hq
  simp only [hok, decide_true] at hq ⊢
  have o1 := fun (l : List Value) n v => over_set (l := l) (i := n) (v := v)
  simp (maxSteps := 10000000) (disch := first | assumption | ((try simp only [push_next, put_next, adv_next, List.length_cons, List.length_nil, List.length_map, List.length_set]); omega) | simp) [hg1, -over, o1, hR, hk]
  have U0 : Upd h (h1.put c (some (.cells false (P ++ (R.map u32).set 0 (u32 0#32))))) [c] [c] := (K1.upd _).put1
  refine G_loop (fun n e h' => ∃ us vs, n = vs.length ∧ L = us ++ vs ∧ Upd h h' [c] [c] ∧ h'.get c = some (.cells false (P ++ (irun (R.set 0 0#32) us).map u32)) ∧ e 0 = ptr c k ∧ e 16 = .slice a L.length cp ∧ e 17 = .int .i64 L.length ∧ e 18 = .int .i64 us.length) ?_ L.length _ _ ⟨[], L, rfl, rfl, U0, ?_, by simp, by simp, by simp, by simp⟩
  case refine_2 => rw [get_put_self hlt1]; simp
  rintro n ih e h' ⟨us, vs, rfl, hx, U, hgc, e0, e16, e17, e18⟩
  cases vs with
  | nil =>
    have hl : L.length = us.length := by rw [hx]; simp
    have hL : L = us := by rw [hx]; simp
    simp (maxSteps := 10000000) (disch := first | assumption | ((try simp only [push_next, put_next, adv_next, List.length_cons, List.length_nil, List.length_map, List.length_set]); omega) | simp) [e0, e16, e17, e18, hl]
    refine hq _ ?_ U
    rw [hgc, hL]
  | cons o vs =>
    have hl : us.length < L.length := by rw [hx]; simp
    have hl' : (us.length : Int) < L.length := by omega
    obtain ⟨A, rfl, hr⟩ := Sees.mid (A := us) (x := o) (B := vs) (by rw [← hx]; exact hs)
    have hr' : h'.rdn A.block (A.off + us.length * 5) 5 = some [.int .i64 o.k, .int .i64 o.d, .int .i64 o.a, .int .i64 o.b, u32 o.imm] := rdn_kp hr (U.get _ (lt_of_rdn hr) (by simpa using hac A rfl))
    simp (maxSteps := 10000000) (disch := first | assumption | ((try simp only [push_next, put_next, adv_next, List.length_cons, List.length_nil, List.length_map, List.length_set]); omega) | simp) [e0, e16, e17, e18, hl', hr']
    generalize hh1 : h'.push (Ob.cells false [.int .i64 o.k, .int .i64 o.d, .int .i64 o.a, .int .i64 o.b, u32 o.imm]) = h1
    have hltc := lt_of_get hgc
    have y0 : h1.get h'.next = some (.cells false [.int .i64 o.k, .int .i64 o.d, .int .i64 o.a, .int .i64 o.b, u32 o.imm]) := by
      rw [← hh1, get_push_self]
    have K2 : Kp h' h1 := by
      rw [← hh1]
      exact (Kp.refl h').push _
    have hgc1 : h1.get c = some (.cells false (P ++ (irun (R.set 0 0#32) us).map u32)) := by rw [K2.get c hltc, hgc]
    simp (maxSteps := 10000000) (disch := first | assumption | ((try simp only [push_next, put_next, adv_next, List.length_cons, List.length_nil, List.length_map, List.length_set]); omega) | simp) [y0, Hp.rdn]
    refine GC_intro (ir_doK (o := o) (P := P) (k := k) (q := fun v h2 => h2.get c = some (.cells false (P ++ (ido (irun (R.set 0 0#32) us) o).map u32)) ∧ Upd h1 h2 [c] [c]) hk (hok o (by rw [hx]; simp)) (by simp [hR]) hgc1 (fun h2 g2 u2 => ⟨g2, u2⟩)) fun v h2 ⟨g2, u2⟩ => ?_
    simp (maxSteps := 10000000) (disch := first | assumption | ((try simp only [push_next, put_next, adv_next, List.length_cons, List.length_nil, List.length_map, List.length_set]); omega) | simp) [e18]
    refine ih vs.length (by simp) _ _ ⟨us ++ [o], vs, rfl, by rw [hx]; simp, (U.one K2).trans u2, ?_, by simp [e0], by simp [e16], by simp [e17], by simp⟩
    rw [g2, irun_append]
    rfl
theorem ir_run (hR : R.length = 40) (hg : h.get c = some (.cells false (R.map u32))) (hs : Sees encOp h a L) (hac : ∀ A, a = some A → A.block ≠ c) (hb : L.length < 2 ^ 63)
    (hq : ∀ h', h'.get c = some (.cells false ((if oks L then irun (R.set 0 0#32) L else R).map u32)) → Upd h h' [c] [c] → q (.bool (decide (oks L))) h') : WC T n_ir_Run [ptr c 0, .slice a L.length cp] h q :=
  ir_runK (P := []) (k := 0) rfl hR (by simpa using hg) hs hac hb fun h' g u => hq h' (by simpa using g) u
end
end Go.Proofs.Ytjobkhnanbkcjaa.Cd

/- Few numbers sorted, each once. -/
set_option maxRecDepth 1000000
set_option maxHeartbeats 8000000
set_option linter.unusedSimpArgs false
set_option linter.unusedVariables false
namespace Go.Proofs.Ytjobkhnanbkcjaa.Cd
open Go Go.Dx
section
variable {h : Hp} {q : Value → Hp → Prop} {b c : Nat} {x y z : Int}
theorem nan_int : WC T n_cmp_isNaN_int [.int .i64 x] h q ↔ q (.bool false) h := by
  rw [w_cmp_isNaN_int]
  simp (maxSteps := 10000000) (disch := first | assumption | ((try simp only [push_next, put_next, adv_next, List.length_cons, List.length_nil, List.length_map, List.length_set]); omega) | simp)
theorem less_int : WC T n_cmp_Less_int [.int .i64 x, .int .i64 y] h q ↔ q (.bool (decide (x < y))) h := by
  rw [w_cmp_Less_int]
  simp (maxSteps := 10000000) (disch := first | assumption | ((try simp only [push_next, put_next, adv_next, List.length_cons, List.length_nil, List.length_map, List.length_set]); omega) | simp) [GC_of (fun q => nan_int)]
theorem len64 {n : Nat} (hn : n < 256) : WC T n_math_bits_Len [u64 (BitVec.ofNat 64 n)] h fun v h' => h' = h ∧ ∃ k, v = .int .i64 k := by
  have l64 : WC T n_math_bits_Len64 [u64 (BitVec.ofNat 64 n)] h fun v h' => h' = h ∧ ∃ k, v = .int .i64 k := by
    have h1 : ¬ (4294967296#64 ≤ BitVec.ofNat 64 n) := by simp [BitVec.le_def]; omega
    have h2 : ¬ (65536#64 ≤ BitVec.ofNat 64 n) := by simp [BitVec.le_def]; omega
    have h3 : ¬ (256#64 ≤ BitVec.ofNat 64 n) := by simp [BitVec.le_def]; omega
    rw [w_math_bits_Len64]
    simp (maxSteps := 10000000) (disch := first | assumption | ((try simp only [push_next, put_next, adv_next, List.length_cons, List.length_nil, List.length_map, List.length_set]); omega) | simp) [h1, h2, h3, len8]
  rw [w_math_bits_Len]
  simp (maxSteps := 10000000) (disch := first | assumption | ((try simp only [push_next, put_next, adv_next, List.length_cons, List.length_nil, List.length_map, List.length_set]); omega) | simp)
  refine GC_intro l64 fun v h' ⟨hh, k, hv⟩ => ?_
  subst hh
  subst hv
  simp (maxSteps := 10000000) (disch := first | assumption | ((try simp only [push_next, put_next, adv_next, List.length_cons, List.length_nil, List.length_map, List.length_set]); omega) | simp)
theorem ins0 {a : Option Addr} {c : Nat} : WC T n_slices_insertionSortOrdered_int [.slice a 0 c, .int .i64 0, .int .i64 0] h fun v h' => h' = h := by
  rw [w_slices_insertionSortOrdered_int]
  simp (maxSteps := 10000000) (disch := first | assumption | ((try simp only [push_next, put_next, adv_next, List.length_cons, List.length_nil, List.length_map, List.length_set]); omega) | simp) [G_round]
theorem ins1 {a : Option Addr} {c : Nat} : WC T n_slices_insertionSortOrdered_int [.slice a 1 c, .int .i64 0, .int .i64 1] h fun v h' => h' = h := by
  rw [w_slices_insertionSortOrdered_int]
  simp (maxSteps := 10000000) (disch := first | assumption | ((try simp only [push_next, put_next, adv_next, List.length_cons, List.length_nil, List.length_map, List.length_set]); omega) | simp) [G_round]
def Smp (l m : List Int) : Prop := m.length = l.length ∧ m.Pairwise (· ≤ ·) ∧ ∀ c, c ∈ m ↔ c ∈ l
theorem ins2 (hg : h.get b = some (.cells false [.int .i64 x, .int .i64 y])) : WC T n_slices_insertionSortOrdered_int [.slice (some ⟨b, 0, none⟩) 2 c, .int .i64 0, .int .i64 2] h fun v h' => ∃ m, Smp [x, y] m ∧ h'.get b = some (.cells false (m.map (Value.int .i64))) ∧ Upd h h' [b] [b] := by
  have hlt := lt_of_get hg
  rw [w_slices_insertionSortOrdered_int]
  by_cases h1 : y < x
  · simp (maxSteps := 10000000) (disch := first | assumption | ((try simp only [push_next, put_next, adv_next, List.length_cons, List.length_nil, List.length_map, List.length_set]); omega) | simp) [G_round, hg, h1, GCI_of (fun q => less_int), GC_of (fun q => less_int)]
    refine ⟨[y, x], ⟨rfl, by simp; omega, by simp; omega⟩, by simp, Upd.refl.put1⟩
  · simp (maxSteps := 10000000) (disch := first | assumption | ((try simp only [push_next, put_next, adv_next, List.length_cons, List.length_nil, List.length_map, List.length_set]); omega) | simp) [G_round, hg, h1, GCI_of (fun q => less_int), GC_of (fun q => less_int)]
    refine ⟨[x, y], ⟨rfl, by simp; omega, by simp⟩, by simp, .refl⟩
theorem ins3 (hg : h.get b = some (.cells false [.int .i64 x, .int .i64 y, .int .i64 z])) : WC T n_slices_insertionSortOrdered_int [.slice (some ⟨b, 0, none⟩) 3 c, .int .i64 0, .int .i64 3] h fun v h' => ∃ m, Smp [x, y, z] m ∧ h'.get b = some (.cells false (m.map (Value.int .i64))) ∧ Upd h h' [b] [b] := by
  have hlt := lt_of_get hg
  rw [w_slices_insertionSortOrdered_int]
  by_cases h1 : y < x
  · by_cases h2 : z < x
    · by_cases h3 : z < y
      · simp (maxSteps := 10000000) (disch := first | assumption | ((try simp only [push_next, put_next, adv_next, List.length_cons, List.length_nil, List.length_map, List.length_set]); omega) | simp) [G_round, hg, h1, h2, h3, GCI_of (fun q => less_int), GC_of (fun q => less_int)]
        refine ⟨[z, y, x], ⟨rfl, by simp; omega, by simp; omega⟩, by simp, Upd.refl.put1⟩
      · simp (maxSteps := 10000000) (disch := first | assumption | ((try simp only [push_next, put_next, adv_next, List.length_cons, List.length_nil, List.length_map, List.length_set]); omega) | simp) [G_round, hg, h1, h2, h3, GCI_of (fun q => less_int), GC_of (fun q => less_int)]
        refine ⟨[y, z, x], ⟨rfl, by simp; omega, by simp; omega⟩, by simp, Upd.refl.put1⟩
    · simp (maxSteps := 10000000) (disch := first | assumption | ((try simp only [push_next, put_next, adv_next, List.length_cons, List.length_nil, List.length_map, List.length_set]); omega) | simp) [G_round, hg, h1, h2, GCI_of (fun q => less_int), GC_of (fun q => less_int)]
      refine ⟨[y, x, z], ⟨rfl, by simp; omega, by simp; omega⟩, by simp, Upd.refl.put1⟩
  · by_cases h2 : z < y
    · by_cases h3 : z < x
      · simp (maxSteps := 10000000) (disch := first | assumption | ((try simp only [push_next, put_next, adv_next, List.length_cons, List.length_nil, List.length_map, List.length_set]); omega) | simp) [G_round, hg, h1, h2, h3, GCI_of (fun q => less_int), GC_of (fun q => less_int)]
        refine ⟨[z, x, y], ⟨rfl, by simp; omega, by simp; omega⟩, by simp, Upd.refl.put1⟩
      · simp (maxSteps := 10000000) (disch := first | assumption | ((try simp only [push_next, put_next, adv_next, List.length_cons, List.length_nil, List.length_map, List.length_set]); omega) | simp) [G_round, hg, h1, h2, h3, GCI_of (fun q => less_int), GC_of (fun q => less_int)]
        refine ⟨[x, z, y], ⟨rfl, by simp; omega, by simp; omega⟩, by simp, Upd.refl.put1⟩
    · simp (maxSteps := 10000000) (disch := first | assumption | ((try simp only [push_next, put_next, adv_next, List.length_cons, List.length_nil, List.length_map, List.length_set]); omega) | simp) [G_round, hg, h1, h2, GCI_of (fun q => less_int), GC_of (fun q => less_int)]
      refine ⟨[x, y, z], ⟨rfl, by simp; omega, by simp⟩, by simp, .refl⟩
end
end Go.Proofs.Ytjobkhnanbkcjaa.Cd

/- What an operation asks and writes: the program's. -/
set_option maxRecDepth 1000000
set_option maxHeartbeats 8000000
set_option linter.unusedSimpArgs false
set_option linter.unusedVariables false
namespace Go.Proofs.Ytjobkhnanbkcjaa.Cd
open Go Go.Dx
section
variable {h : Hp} {q : Value → Hp → Prop} {b c : Nat} {x y z : Int} {o : IOp}
theorem pdq {a : Option Addr} {n : Nat} {k : Int} {P : Hp → Prop} (hn : n ≤ 12) (hi : WC T n_slices_insertionSortOrdered_int [.slice a n c, .int .i64 0, .int .i64 n] h fun v h' => P h') : WC T n_slices_pdqsortOrdered_int [.slice a n c, .int .i64 0, .int .i64 n, .int .i64 k] h fun v h' => P h' := by
  have h1 : (n : Int) ≤ 12 := by omega
  rw [w_slices_pdqsortOrdered_int]
  simp (maxSteps := 10000000) (disch := first | assumption | ((try simp only [push_next, put_next, adv_next, List.length_cons, List.length_nil, List.length_map, List.length_set]); omega) | simp) [G_round, h1]
  refine GC_intro hi fun v h' hp => ?_
  simp (maxSteps := 10000000) (disch := first | assumption | ((try simp only [push_next, put_next, adv_next, List.length_cons, List.length_nil, List.length_map, List.length_set]); omega) | simp)
  exact hp
theorem sort_of {a : Option Addr} {n : Nat} {P : Hp → Prop} (hn : n ≤ 12) (hi : WC T n_slices_insertionSortOrdered_int [.slice a n c, .int .i64 0, .int .i64 n] h fun v h' => P h') : WC T n_slices_Sort_int_int [.slice a n c] h fun v h' => P h' := by
  rw [w_slices_Sort_int_int]
  simp (maxSteps := 10000000) (disch := first | assumption | ((try simp only [push_next, put_next, adv_next, List.length_cons, List.length_nil, List.length_map, List.length_set]); omega) | simp)
  refine GC_intro (len64 (by omega)) fun v h' ⟨hh, k, hv⟩ => ?_
  subst hh
  subst hv
  simp (maxSteps := 10000000) (disch := first | assumption | ((try simp only [push_next, put_next, adv_next, List.length_cons, List.length_nil, List.length_map, List.length_set]); omega) | simp)
  refine GC_intro (pdq hn hi) fun v h2 hp => ?_
  simp (maxSteps := 10000000) (disch := first | assumption | ((try simp only [push_next, put_next, adv_next, List.length_cons, List.length_nil, List.length_map, List.length_set]); omega) | simp)
  exact hp
def Cmp3 (m r : List Int) : Prop := r.Pairwise (· < ·) ∧ ∀ c, c ∈ r ↔ c ∈ m
theorem compact1 : WC T n_slices_Compact_int_int [.slice (some ⟨b, 0, none⟩) 1 1] h fun v h' => v = .slice (some ⟨b, 0, none⟩) 1 1 ∧ h' = h := by
  rw [w_slices_Compact_int_int]
  simp (maxSteps := 10000000) (disch := first | assumption | ((try simp only [push_next, put_next, adv_next, List.length_cons, List.length_nil, List.length_map, List.length_set]); omega) | simp)
theorem compact0 : WC T n_slices_Compact_int_int [.slice none 0 0] h fun v h' => v = .slice none 0 0 ∧ h' = h := by
  rw [w_slices_Compact_int_int]
  simp (maxSteps := 10000000) (disch := first | assumption | ((try simp only [push_next, put_next, adv_next, List.length_cons, List.length_nil, List.length_map, List.length_set]); omega) | simp)
def Sz (h : Hp) (v : Value) (r : List Int) : Prop := ∃ a c, v = .slice a r.length c ∧ Sees encZ h a r
theorem sz_of {h : Hp} {b : Nat} {s : Option Nat} {r k : List Int} {c : Nat} (hs : s = none) (hg : h.get b = some (.cells false ((r ++ k).map (Value.int .i64)))) : Sz h (.slice (some ⟨b, 0, s⟩) r.length c) r := by
  subst hs
  refine ⟨_, _, rfl, ⟨fun hA => (by cases hA), fun A hA => ?_, fun A hA => (by cases hA; exact .inl rfl)⟩⟩
  cases hA
  simp only [Hp.rdn, Hp.cells, hg, Option.bind_some, Nat.zero_add, encZ_sz, Nat.mul_one]
  rw [if_pos (by simp)]
  simp [encZ_all]
theorem compact2 (hg : h.get b = some (.cells false [.int .i64 x, .int .i64 y])) (hm : x ≤ y) : WC T n_slices_Compact_int_int [.slice (some ⟨b, 0, none⟩) 2 2] h fun v h' => ∃ r, Cmp3 [x, y] r ∧ Sz h' v r ∧ Upd h h' [b] [b] := by
  have hlt := lt_of_get hg
  rw [w_slices_Compact_int_int]
  by_cases h1 : x = y
  · simp (maxSteps := 10000000) (disch := first | assumption | ((try simp only [push_next, put_next, adv_next, List.length_cons, List.length_nil, List.length_map, List.length_set]); omega) | simp) [G_round, hg, h1, sliceV, bounds, asN]
    refine ⟨[y], ⟨by simp, by simp⟩, sz_of (r := [y]) (k := [0]) rfl (by simp [get_put_self hlt]), Upd.refl.put1⟩
  · have h2 : ¬ y = x := fun e => h1 e.symm
    simp (maxSteps := 10000000) (disch := first | assumption | ((try simp only [push_next, put_next, adv_next, List.length_cons, List.length_nil, List.length_map, List.length_set]); omega) | simp) [G_round, hg, h1, h2, sliceV, bounds, asN]
    refine ⟨[x, y], ⟨by simp; omega, by simp⟩, sz_of (r := [x, y]) (k := []) rfl (by simp [hg]), .refl⟩
theorem compact3 (hg : h.get b = some (.cells false [.int .i64 x, .int .i64 y, .int .i64 z])) (hm : x ≤ y) (hn : y ≤ z) : WC T n_slices_Compact_int_int [.slice (some ⟨b, 0, none⟩) 3 3] h fun v h' => ∃ r, Cmp3 [x, y, z] r ∧ Sz h' v r ∧ Upd h h' [b] [b] := by
  have hlt := lt_of_get hg
  rw [w_slices_Compact_int_int]
  by_cases h1 : y = x
  · by_cases h2 : z = y
    · simp (maxSteps := 10000000) (disch := first | assumption | ((try simp only [push_next, put_next, adv_next, List.length_cons, List.length_nil, List.length_map, List.length_set]); omega) | simp) [G_round, hg, h1, h2, sliceV, bounds, asN]
      refine ⟨[x], ⟨by simp, by simp⟩, sz_of (r := [x]) (k := [0, 0]) rfl (by simp [get_put_self hlt]), Upd.refl.put1⟩
    · have h3 : ¬ z = x := by omega
      simp (maxSteps := 10000000) (disch := first | assumption | ((try simp only [push_next, put_next, adv_next, List.length_cons, List.length_nil, List.length_map, List.length_set]); omega) | simp) [G_round, hg, h1, h2, h3, sliceV, bounds, asN]
      refine ⟨[x, z], ⟨by simp; omega, by simp⟩, sz_of (r := [x, z]) (k := [0]) rfl (by simp [get_put_self hlt]), Upd.refl.put1⟩
  · by_cases h2 : z = y
    · simp (maxSteps := 10000000) (disch := first | assumption | ((try simp only [push_next, put_next, adv_next, List.length_cons, List.length_nil, List.length_map, List.length_set]); omega) | simp) [G_round, hg, h1, h2, sliceV, bounds, asN]
      refine ⟨[x, y], ⟨by simp; omega, by simp⟩, sz_of (r := [x, y]) (k := [0]) rfl (by simp [get_put_self hlt]), Upd.refl.put1⟩
    · simp (maxSteps := 10000000) (disch := first | assumption | ((try simp only [push_next, put_next, adv_next, List.length_cons, List.length_nil, List.length_map, List.length_set]); omega) | simp) [G_round, hg, h1, h2, sliceV, bounds, asN]
      refine ⟨[x, y, z], ⟨by simp; omega, by simp⟩, sz_of (r := [x, y, z]) (k := []) rfl (by simp [hg]), .refl⟩
end
end Go.Proofs.Ytjobkhnanbkcjaa.Cd

/- Small operations: what the document's functions do. -/
set_option maxRecDepth 1000000
set_option maxHeartbeats 4000000
set_option linter.unusedSimpArgs false
set_option linter.unusedVariables false
namespace Go.Proofs.Ytjobkhnanbkcjaa.Cd
open Go Go.Dx
section
variable {h : Hp} {q : Value → Hp → Prop} {o : IOp} {R : Regs} {c cp : Nat} {a : Option Addr} {L : List IOp}
theorem bit_at {v : BitVec 32} {i : Nat} (h1 : v.toNat < 2 ^ (i + 1)) : ((v >>> i) &&& 1#32 == 1#32) = decide (2 ^ i ≤ v.toNat) := by
  have hp := Nat.two_pow_pos i
  have h2 : v.toNat / 2 ^ i < 2 := (Nat.div_lt_iff_lt_mul hp).2 (by rw [Nat.pow_succ] at h1; omega)
  rw [Bool.eq_iff_iff, beq_iff_eq, decide_eq_true_eq]
  constructor
  · intro hh
    have := congrArg BitVec.toNat hh
    rw [BitVec.toNat_and, BitVec.toNat_ushiftRight, Nat.shiftRight_eq_div_pow] at this
    apply Classical.byContradiction
    intro h3
    rw [Nat.div_eq_of_lt (by omega)] at this
    simp at this
  · intro hh
    have h3 : v.toNat / 2 ^ i = 1 := by
      have := (Nat.le_div_iff_mul_le hp).2 (show 1 * 2 ^ i ≤ v.toNat by omega)
      omega
    apply BitVec.eq_of_toNat_eq
    rw [BitVec.toNat_and, BitVec.toNat_ushiftRight, Nat.shiftRight_eq_div_pow, h3]
    rfl
theorem ref_clz {v : BitVec 32} : WC T n_pianolaref1_Clz [u32 v] h fun u h' => u = .int .i64 (clz v) ∧ h' = h := by
  rw [w_pianolaref1_Clz]
  simp (maxSteps := 10000000) (disch := first | assumption | ((try simp only [push_next, put_next, adv_next, List.length_cons, List.length_nil, List.length_map, List.length_set]); omega) | simp)
  refine G_loop (fun n e h' => ∃ i : Nat, n = i ∧ i ≤ 32 ∧ v.toNat < 2 ^ i ∧ h' = h ∧ e 0 = u32 v ∧ e 3 = .int .i64 (32 - i) ∧ e 4 = .int .i64 ((i : Int) - 1)) ?_ 32 _ _ ⟨32, rfl, by omega, v.isLt, rfl, by simp, by simp, by simp⟩
  rintro n ih e h' ⟨i, rfl, hi, hv, rfl, e0, e3, e4⟩
  cases n with
  | zero =>
    have hz : v = 0#32 := BitVec.eq_of_toNat_eq (by simp at hv ⊢; omega)
    simp (maxSteps := 10000000) (disch := first | assumption | ((try simp only [push_next, put_next, adv_next, List.length_cons, List.length_nil, List.length_map, List.length_set]); omega) | simp) [e0, e3, e4]
    rw [hz, clz_zero]; rfl
  | succ i =>
    have e4' : e 4 = .int .i64 i := by rw [e4]; congr 1; omega
    have hg : (0 : Int) ≤ i := by omega
    have hc : i % 18446744073709551616 = i := by omega
    have hb := bit_at hv
    by_cases h1 : 2 ^ i ≤ v.toNat
    · simp only [h1, decide_true, beq_iff_eq] at hb
      simp (maxSteps := 10000000) (disch := first | assumption | ((try simp only [push_next, put_next, adv_next, List.length_cons, List.length_nil, List.length_map, List.length_set]); omega) | simp) [e0, e3, e4', hg, hc, hb]
      rw [clz_top h1 hv (by omega)]
      omega
    · simp only [h1, decide_false, beq_eq_false_iff_ne, ne_eq] at hb
      have hs : IntKind.i64.wrap (32 - ((i : Int) + 1) + 1) = 32 - (i : Int) := by rw [wrap_i64 (by omega) (by omega)]; omega
      simp (maxSteps := 10000000) (disch := first | assumption | ((try simp only [push_next, put_next, adv_next, List.length_cons, List.length_nil, List.length_map, List.length_set]); omega) | simp) [e0, e3, e4', hg, hc, hb]
      refine ih i (by omega) _ _ ⟨i, rfl, by omega, by omega, rfl, by simp [e0], ?_, ?_⟩
      · simp; omega
      · simp
theorem ref_clo {v : BitVec 32} : WC T n_pianolaref1_Clo [u32 v] h fun u h' => u = .int .i64 (clz (~~~ v)) ∧ h' = h := by
  rw [w_pianolaref1_Clo]
  simp (maxSteps := 10000000) (disch := first | assumption | ((try simp only [push_next, put_next, adv_next, List.length_cons, List.length_nil, List.length_map, List.length_set]); omega) | simp)
  refine GC_intro ref_clz fun u h' ⟨hu, hh⟩ => ?_
  subst hu
  subst hh
  simp (maxSteps := 10000000) (disch := first | assumption | ((try simp only [push_next, put_next, adv_next, List.length_cons, List.length_nil, List.length_map, List.length_set]); omega) | simp)
theorem ref_sar {v : BitVec 32} {n : Nat} (hn : n < 32) : WC T n_pianolaref1_Sar [u32 v, .int .i64 n] h fun u h' => u = u32 (sar v n) ∧ h' = h := by
  rw [w_pianolaref1_Sar]
  have h1 : ((n : Int).tmod 32) = n := by rw [Int.tmod_eq_emod_of_nonneg (by omega)]; omega
  have h2 : ((n : Int) + 32).tmod 32 = n := by
    rw [Int.tmod_eq_emod_of_nonneg (by omega)]; omega
  simp (maxSteps := 10000000) (disch := first | assumption | ((try simp only [push_next, put_next, adv_next, List.length_cons, List.length_nil, List.length_map, List.length_set]); omega) | simp) [h1, h2]
  refine G_loop (fun m e h' => ∃ j : Nat, m = n - j ∧ j ≤ n ∧ h' = h ∧ e 0 = u32 (sar v j) ∧ e 5 = u64 (BitVec.ofNat 64 (n - j))) ?_ n _ _ ⟨0, by omega, by omega, rfl, by simp [sar_zero], by simp⟩
  rintro m ih e h' ⟨j, rfl, hj, rfl, e0, e5⟩
  by_cases hjn : j = n
  · subst hjn
    simp (maxSteps := 10000000) (disch := first | assumption | ((try simp only [push_next, put_next, adv_next, List.length_cons, List.length_nil, List.length_map, List.length_set]); omega) | simp) [e0, e5]
  · have hp : 0#64 < BitVec.ofNat 64 (n - j) := by
      rw [BitVec.lt_def]; simp; omega
    have hd : BitVec.ofNat 64 (n - j) - 1#64 = BitVec.ofNat 64 (n - (j + 1)) := by
      apply BitVec.eq_of_toNat_eq
      simp only [BitVec.toNat_sub, BitVec.toNat_ofNat]
      omega
    simp (maxSteps := 10000000) (disch := first | assumption | ((try simp only [push_next, put_next, adv_next, List.length_cons, List.length_nil, List.length_map, List.length_set]); omega) | simp) [e0, e5, hp]
    refine ih (n - (j + 1)) (by omega) _ _ ⟨j + 1, rfl, by omega, rfl, ?_, ?_⟩
    · simp [sar_one, sar_add]
    · simp [hd]
end
end Go.Proofs.Ytjobkhnanbkcjaa.Cd

/- Rows of small operations: what the document does with them. -/
set_option maxRecDepth 1000000
set_option maxHeartbeats 8000000
set_option linter.unusedSimpArgs false
set_option linter.unusedVariables false
namespace Go.Proofs.Ytjobkhnanbkcjaa.Cd
open Go Go.Dx
section
variable {h : Hp} {q : Value → Hp → Prop} {o : IOp} {R : Regs} {c cp : Nat} {a : Option Addr} {L : List IOp}
theorem ref_sarI {v : BitVec 32} {n : Nat} : WC T n_pianolaref1_Sar [u32 v, .int .i64 ((n % 32 : Nat) : Int)] h q ↔ q (u32 (sar v (n % 32))) h := WC_iff (ref_sar (by omega)) q
theorem ref_clzI {v : BitVec 32} : WC T n_pianolaref1_Clz [u32 v] h q ↔ q (.int .i64 (clz v)) h := WC_iff ref_clz q
theorem ref_cloI {v : BitVec 32} : WC T n_pianolaref1_Clo [u32 v] h q ↔ q (.int .i64 (clz (~~~ v))) h := WC_iff ref_clo q
theorem ref_one (ho : o.ok) (hR : R.length = 40) (hg : h.get c = some (.cells false (R.map u32))) (hq : ∀ h', h'.get c = some (.cells false ((ido R o).map u32)) → Upd h h' [c] [c] → q (.tuple #[]) h') :
    WC T n_pianolaref18_One [.slice (some ⟨c, 0, none⟩) 40 cp, .agg (encOp.enc o).toArray] h q := by
  obtain ⟨⟨d0, d1⟩, ⟨a0, a1⟩, ⟨b0, b1⟩, k0, k1⟩ := id ho
  have hlt := lt_of_get hg
  have ra := rg_get (R := R) a0 (by omega)
  have rb := rg_get (R := R) b0 (by omega)
  have o1 := fun (l : List Value) n v => over_set (l := l) (i := n) (v := v)
  have dl : o.d ≤ 39 := by omega
  have fact : ∀ (g : Hp) (C : List Value), (∀ b, b < h.next → b ≠ c → g.get b = h.get b) → h.next ≤ g.next → C = (ido R o).map u32 → q (.tuple #[]) (g.put c (some (.cells false C))) := fun g C h1 h2 h3 => by
    subst h3
    exact hq _ (get_put_self (by omega)) (upd_one h1 h2)
  have same : ido R o = R → q (.tuple #[]) (h.push (.cells false (encOp.enc o))) := fun hd => hq _ (by rw [get_push_ne (by omega), hg, hd]) ⟨by simp, fun b hb _ => get_push_ne (by omega), fun b hb => .inl hb⟩
  simp only [encOp] at same
  rw [w_pianolaref18_One]
  have ks : o.k = 0 ∨ (o.k = 17 ∨ o.k = 18) ∨ (o.k = 19 ∨ o.k = 20) ∨ (o.k = 21 ∨ o.k = 22) ∨ (o.k = 1 ∨ o.k = 2 ∨ o.k = 3 ∨ o.k = 4 ∨ o.k = 5 ∨ o.k = 6 ∨ o.k = 7 ∨ o.k = 8 ∨ o.k = 9 ∨ o.k = 10 ∨ o.k = 11 ∨ o.k = 12 ∨ o.k = 13 ∨ o.k = 14 ∨ o.k = 15 ∨ o.k = 16) := by omega
  rcases ks with hk | hk | hk | hk | hk
  · have := same (by unfold ido; simp [hk])
    simp [hk] at this
    simp (maxSteps := 10000000) (disch := first | assumption | ((try simp only [push_next, put_next, adv_next, List.length_cons, List.length_nil, List.length_map, List.length_set]); omega) | simp) [encOp, hk, hg, ra, rb, hR]
    exact this
  · rcases hk with hk | hk <;>
    · simp (maxSteps := 10000000) (disch := first | assumption | ((try simp only [push_next, put_next, adv_next, List.length_cons, List.length_nil, List.length_map, List.length_set]); omega) | simp) [encOp, hk, hg, ra, rb, hR, -over, o1, GC_of (fun q => ref_mul)]
      refine fact _ _ ?_ ?_ ?_
      · intro b hb hbc; rw [get_push_ne (by omega)]
      · simp
      · simp [ido, hk]
  · rcases hk with hk | hk <;>
    · simp (maxSteps := 10000000) (disch := first | assumption | ((try simp only [push_next, put_next, adv_next, List.length_cons, List.length_nil, List.length_map, List.length_set]); omega) | simp) [encOp, hk, hg, ra, rb, hR, -over, o1, GC_of (fun q => ref_div)]
      refine fact _ _ ?_ ?_ ?_
      · intro b hb hbc; rw [get_push_ne (by omega)]
      · simp
      · simp [ido, hk]
  · by_cases z : rg R o.b = 0#32
    · rcases hk with hk | hk
      · by_cases hd : o.d = 0
        · have := same (by unfold ido; simp [hk, hd])
          simp [hk, hd] at this
          simp (maxSteps := 10000000) (disch := first | assumption | ((try simp only [push_next, put_next, adv_next, List.length_cons, List.length_nil, List.length_map, List.length_set]); omega) | simp) [encOp, hk, hd, hg, ra, rb, hR, -over, o1, z]
          exact this
        · have hp : 0 < o.d := by omega
          simp (maxSteps := 10000000) (disch := first | assumption | ((try simp only [push_next, put_next, adv_next, List.length_cons, List.length_nil, List.length_map, List.length_set]); omega) | simp) [encOp, hk, hp, hg, ra, rb, hR, dl, -over, o1, z]
          refine fact _ _ ?_ ?_ ?_
          · intro b hb hbc; rw [get_push_ne (by omega)]
          · simp
          · simp [ido, hk, hd, z, iof]
      · have := same (by unfold ido; simp [hk, z])
        simp [hk] at this
        simp (maxSteps := 10000000) (disch := first | assumption | ((try simp only [push_next, put_next, adv_next, List.length_cons, List.length_nil, List.length_map, List.length_set]); omega) | simp) [encOp, hk, hg, ra, rb, hR, -over, o1, z]
        exact this
    · rcases hk with hk | hk
      · have := same (by unfold ido; simp [hk, z])
        simp [hk] at this
        simp (maxSteps := 10000000) (disch := first | assumption | ((try simp only [push_next, put_next, adv_next, List.length_cons, List.length_nil, List.length_map, List.length_set]); omega) | simp) [encOp, hk, hg, ra, rb, hR, -over, o1, z]
        exact this
      · by_cases hd : o.d = 0
        · have := same (by unfold ido; simp [hk, hd])
          simp [hk, hd] at this
          simp (maxSteps := 10000000) (disch := first | assumption | ((try simp only [push_next, put_next, adv_next, List.length_cons, List.length_nil, List.length_map, List.length_set]); omega) | simp) [encOp, hk, hd, hg, ra, rb, hR, -over, o1, z]
          exact this
        · have hp : 0 < o.d := by omega
          simp (maxSteps := 10000000) (disch := first | assumption | ((try simp only [push_next, put_next, adv_next, List.length_cons, List.length_nil, List.length_map, List.length_set]); omega) | simp) [encOp, hk, hp, hg, ra, rb, hR, dl, -over, o1, z]
          refine fact _ _ ?_ ?_ ?_
          · intro b hb hbc; rw [get_push_ne (by omega)]
          · simp
          · simp [ido, hk, hd, z, iof]
  · by_cases hd : o.d = 0
    · have sm : ido R o = R := by
        unfold ido
        rw [if_neg (by omega), if_neg (by omega), if_pos (.inr (.inl hd))]
      have := same sm
      rcases hk with hk | hk | hk | hk | hk | hk | hk | hk | hk | hk | hk | hk | hk | hk | hk | hk <;>
      · simp [hk, hd] at this
        simp (maxSteps := 10000000) (disch := first | assumption | ((try simp only [push_next, put_next, adv_next, List.length_cons, List.length_nil, List.length_map, List.length_set]); omega) | simp) [encOp, hk, hd, hg, ra, rb, hR, -over, o1, GC_of (fun q => ref_less), GC_of (fun q => ref_bit), GC_of (fun q => ref_mul), GC_of (fun q => ref_sarI), GC_of (fun q => ref_clzI), GC_of (fun q => ref_cloI), -Int.natCast_emod]
        exact this
    · have hp : 0 < o.d := by omega
      rcases hk with hk | hk | hk | hk | hk | hk | hk | hk | hk | hk | hk | hk | hk | hk | hk | hk <;>
      · simp (maxSteps := 10000000) (disch := first | assumption | ((try simp only [push_next, put_next, adv_next, List.length_cons, List.length_nil, List.length_map, List.length_set]); omega) | simp) [encOp, hk, hp, hg, ra, rb, hR, dl, -over, o1, GC_of (fun q => ref_less), GC_of (fun q => ref_bit), GC_of (fun q => ref_mul), GC_of (fun q => ref_sarI), GC_of (fun q => ref_clzI), GC_of (fun q => ref_cloI), -Int.natCast_emod]
        refine fact _ _ ?_ ?_ ?_
        · intro b hb hbc; rw [get_push_ne (by omega)]
        · simp
        · simp [ido, hk, hd, iof]
end
end Go.Proofs.Ytjobkhnanbkcjaa.Cd

/- What an operation asks and writes: the program's, the document's. -/
set_option maxRecDepth 1000000
set_option maxHeartbeats 8000000
set_option linter.unusedSimpArgs false
set_option linter.unusedVariables false
namespace Go.Proofs.Ytjobkhnanbkcjaa.Cd
open Go Go.Dx
section
variable {h : Hp} {q : Value → Hp → Prop} {b c : Nat} {x y z : Int} {o : IOp}
theorem sz_nil : Sz h (.slice none 0 0) [] := ⟨none, 0, rfl, .nul⟩
theorem sz_kp {h h' : Hp} {v : Value} {r : List Int} (hs : Sz h v r) (k : Kp h h') : Sz h' v r := by
  obtain ⟨a, c, rfl, s⟩ := hs
  exact ⟨a, c, rfl, s.kp k⟩
theorem kp_upd {g h h' : Hp} {b : Nat} (k : Kp g h) (u : Upd h h' [b] [b]) (hb : g.next ≤ b) : Kp g h' := u.kp' k (by simpa using hb)
theorem srtd_of {m r l : List Int} (h1 : Smp l m) (h2 : Cmp3 m r) (hb : ∀ c ∈ l, 0 ≤ c ∧ c < 40) : r = srtd l :=
  (srtd_eq h2.1 (fun c => (h2.2 c).trans (h1.2.2 c)) hb).symm
theorem sort1 {h : Hp} : WC T n_slices_Sort_int_int [.slice (some ⟨b, 0, none⟩) 1 1] h fun v h' => h' = h := sort_of (by omega) ins1
theorem sort0 {h : Hp} : WC T n_slices_Sort_int_int [.slice none 0 0] h fun v h' => h' = h := sort_of (by omega) ins0
theorem sort2 {h : Hp} (hg : h.get b = some (.cells false [.int .i64 x, .int .i64 y])) : WC T n_slices_Sort_int_int [.slice (some ⟨b, 0, none⟩) 2 2] h fun v h' => ∃ m, Smp [x, y] m ∧ h'.get b = some (.cells false (m.map (Value.int .i64))) ∧ Upd h h' [b] [b] := sort_of (by omega) (ins2 hg)
theorem sort3 {h : Hp} (hg : h.get b = some (.cells false [.int .i64 x, .int .i64 y, .int .i64 z])) : WC T n_slices_Sort_int_int [.slice (some ⟨b, 0, none⟩) 3 3] h fun v h' => ∃ m, Smp [x, y, z] m ∧ h'.get b = some (.cells false (m.map (Value.int .i64))) ∧ Upd h h' [b] [b] := sort_of (by omega) (ins3 hg)
theorem two_of {m : List Int} (h : m.length = 2) : ∃ x y, m = [x, y] := by
  match m, h with
  | [x, y], _ => exact ⟨x, y, rfl⟩
theorem three_of {m : List Int} (h : m.length = 3) : ∃ x y z, m = [x, y, z] := by
  match m, h with
  | [x, y, z], _ => exact ⟨x, y, z, rfl⟩
theorem ir_reads : WC T n_ir_Reads [.agg (encOp.enc o).toArray] h fun v h' => Sz h' v (ireads o) ∧ Kp h h' := by
  have irr := fun (h : Hp) (q : Value → Hp → Prop) => ir_right (h := h) (q := q) (o := o)
  simp only [encOp] at irr
  have K0 : Kp h (((h.push (.cells false (encOp.enc o))).push (.cells false (encOp.enc o))).push (.cells false [.int .i64 o.d, .int .i64 o.a, .int .i64 o.b])) := ((((Kp.refl h).push _).push _).push _)
  rw [w_ir_Reads]
  by_cases ho : o.ok
  case neg =>
    have e : ireads o = [] := by unfold ireads; rw [if_pos (.inl ho)]
    rw [e]
    simp (maxSteps := 10000000) (disch := first | assumption | ((try simp only [push_next, put_next, adv_next, List.length_cons, List.length_nil, List.length_map, List.length_set]); omega) | simp) [encOp, Hp.rdn, GC_of (fun q => irr _ q), ho]
    refine GC_intro sort0 fun v h1 hh => ?_
    subst hh
    simp (maxSteps := 10000000) (disch := first | assumption | ((try simp only [push_next, put_next, adv_next, List.length_cons, List.length_nil, List.length_map, List.length_set]); omega) | simp)
    refine GC_intro compact0 fun v h1 ⟨hv, hh⟩ => ?_
    subst hh
    subst hv
    simp (maxSteps := 10000000) (disch := first | assumption | ((try simp only [push_next, put_next, adv_next, List.length_cons, List.length_nil, List.length_map, List.length_set]); omega) | simp)
    exact ⟨sz_nil, K0⟩
  by_cases hk : o.k = 0 ∨ o.k = 1
  · have e : ireads o = [] := by unfold ireads; rw [if_pos (.inr hk)]
    rw [e]
    simp only [encOp] at K0
    rcases hk with hk | hk <;>
    · simp only [hk] at irr K0
      simp (maxSteps := 10000000) (disch := first | assumption | ((try simp only [push_next, put_next, adv_next, List.length_cons, List.length_nil, List.length_map, List.length_set]); omega) | simp) [encOp, Hp.rdn, GC_of (fun q => irr _ q), ho, hk]
      refine GC_intro sort0 fun v h1 hh => ?_
      subst hh
      simp (maxSteps := 10000000) (disch := first | assumption | ((try simp only [push_next, put_next, adv_next, List.length_cons, List.length_nil, List.length_map, List.length_set]); omega) | simp)
      refine GC_intro compact0 fun v h1 ⟨hv, hh⟩ => ?_
      subst hh
      subst hv
      simp (maxSteps := 10000000) (disch := first | assumption | ((try simp only [push_next, put_next, adv_next, List.length_cons, List.length_nil, List.length_map, List.length_set]); omega) | simp)
      exact ⟨sz_nil, K0⟩
  have hk0 : o.k ≠ 0 ∧ o.k ≠ 1 := by omega
  have h3 : ¬ (¬ o.ok ∨ o.k = 0 ∨ o.k = 1) := by simp [ho, hk0]
  have ho' := ho
  obtain ⟨⟨d0, d1⟩, ⟨a0, a1⟩, ⟨b0, b1⟩, _, _⟩ := ho'
  have e0 : ireads o = if o.k = 2 ∨ o.k = 15 ∨ o.k = 16 then srtd [o.a] else if o.k = 21 ∨ o.k = 22 then srtd [o.a, o.b, o.d] else srtd [o.a, o.b] := by unfold ireads; rw [if_neg h3]
  by_cases hk1 : o.k = 2 ∨ o.k = 15 ∨ o.k = 16
  · rw [e0, if_pos hk1]
    have es : [o.a] = srtd [o.a] := srtd_of (m := [o.a]) ⟨rfl, by simp, fun _ => Iff.rfl⟩ ⟨by simp, fun _ => Iff.rfl⟩ (by simp; omega)
    rw [← es]
    simp only [encOp] at K0
    rcases hk1 with hk | hk | hk <;>
    · simp only [hk] at irr K0
      simp (maxSteps := 10000000) (disch := first | assumption | ((try simp only [push_next, put_next, adv_next, List.length_cons, List.length_nil, List.length_map, List.length_set]); omega) | simp) [encOp, Hp.rdn, GC_of (fun q => irr _ q), ho, hk]
      refine GC_intro sort1 fun v h1 hh => ?_
      subst hh
      simp (maxSteps := 10000000) (disch := first | assumption | ((try simp only [push_next, put_next, adv_next, List.length_cons, List.length_nil, List.length_map, List.length_set]); omega) | simp)
      refine GC_intro compact1 fun v h1 ⟨hv, hh⟩ => ?_
      subst hh
      subst hv
      simp (maxSteps := 10000000) (disch := first | assumption | ((try simp only [push_next, put_next, adv_next, List.length_cons, List.length_nil, List.length_map, List.length_set]); omega) | simp)
      exact ⟨sz_of (r := [o.a]) (k := []) rfl (get_push_at (by simp) (by simp)), K0.push _⟩
  have hk1' : o.k ≠ 2 ∧ o.k ≠ 15 ∧ o.k ≠ 16 := by omega
  by_cases hk2 : o.k = 21 ∨ o.k = 22
  · rw [e0, if_neg hk1, if_pos hk2]
    simp only [encOp] at K0
    rcases hk2 with hk | hk <;>
    · simp only [hk] at irr K0
      simp (maxSteps := 10000000) (disch := first | assumption | ((try simp only [push_next, put_next, adv_next, List.length_cons, List.length_nil, List.length_map, List.length_set]); omega) | simp) [encOp, Hp.rdn, GC_of (fun q => irr _ q), ho, hk]
      refine GC_intro (sort3 (x := o.a) (y := o.b) (z := o.d) (get_push_at (by simp) (by simp))) fun v h1 ⟨m, hm, hg, U⟩ => ?_
      obtain ⟨x, y, z, rfl⟩ := three_of hm.1
      have hm2 := hm.2.1
      simp at hm2
      simp (maxSteps := 10000000) (disch := first | assumption | ((try simp only [push_next, put_next, adv_next, List.length_cons, List.length_nil, List.length_map, List.length_set]); omega) | simp)
      refine GC_intro (compact3 hg (by omega) (by omega)) fun v h2 ⟨r, hr, hz, U2⟩ => ?_
      simp (maxSteps := 10000000) (disch := first | assumption | ((try simp only [push_next, put_next, adv_next, List.length_cons, List.length_nil, List.length_map, List.length_set]); omega) | simp)
      rw [← srtd_of hm hr (by simp; omega)]
      exact ⟨hz, kp_upd (kp_upd (K0.push _) U (by omega)) U2 (by omega)⟩
  · have hk2' : o.k ≠ 21 ∧ o.k ≠ 22 := by omega
    rw [e0, if_neg hk1, if_neg hk2]
    simp only [encOp] at K0
    simp (maxSteps := 10000000) (disch := first | assumption | ((try simp only [push_next, put_next, adv_next, List.length_cons, List.length_nil, List.length_map, List.length_set]); omega) | simp) [encOp, Hp.rdn, GC_of (fun q => irr _ q), ho, hk0, hk1', hk2']
    refine GC_intro (sort2 (x := o.a) (y := o.b) (get_push_at (by simp) (by simp))) fun v h1 ⟨m, hm, hg, U⟩ => ?_
    obtain ⟨x, y, rfl⟩ := two_of hm.1
    have hm2 := hm.2.1
    simp at hm2
    simp (maxSteps := 10000000) (disch := first | assumption | ((try simp only [push_next, put_next, adv_next, List.length_cons, List.length_nil, List.length_map, List.length_set]); omega) | simp)
    refine GC_intro (compact2 hg (by omega)) fun v h2 ⟨r, hr, hz, U2⟩ => ?_
    simp (maxSteps := 10000000) (disch := first | assumption | ((try simp only [push_next, put_next, adv_next, List.length_cons, List.length_nil, List.length_map, List.length_set]); omega) | simp)
    rw [← srtd_of hm hr (by simp; omega)]
    exact ⟨hz, kp_upd (kp_upd (K0.push _) U (by omega)) U2 (by omega)⟩
end
end Go.Proofs.Ytjobkhnanbkcjaa.Cd

/- Are two rows the same? -/
set_option maxRecDepth 1000000
set_option linter.unusedSimpArgs false
set_option linter.unusedVariables false
namespace Go.Proofs.Ytjobkhnanbkcjaa.Cd
open Go Go.Dx
theorem same_int {h : Hp} {q : Value → Hp → Prop} {a a' : Option Addr} {c c' : Nat} {xs ys : List (Int)} (hx : Sees encZ h a xs) (hy : Sees encZ h a' ys) (hb : xs.length < 2 ^ 63) : WC T n_pianolabook_Same_int [.slice a xs.length c, .slice a' ys.length c'] h q ↔ q (.bool (decide (xs = ys))) h := by
  refine WC_iff ?_ q
  rw [w_pianolabook_Same_int]
  by_cases hl : xs.length = ys.length
  case neg =>
    have hne : xs ≠ ys := fun e => hl (by rw [e])
    have hl' : ¬ ((xs.length : Int) = ys.length) := by omega
    simp (maxSteps := 10000000) (disch := first | assumption | ((try simp only [push_next, put_next, adv_next, List.length_cons, List.length_nil, List.length_map, List.length_set]); omega) | simp) [hl', hne]
  simp (maxSteps := 10000000) (disch := first | assumption | ((try simp only [push_next, put_next, adv_next, List.length_cons, List.length_nil, List.length_map, List.length_set]); omega) | simp) [hl]
  refine G_loop (fun n e h' => ∃ us vs ws, n = vs.length ∧ h' = h ∧ xs = us ++ vs ∧ ys = us ++ ws ∧ e 0 = .slice a xs.length c ∧ e 1 = .slice a' ys.length c' ∧ e 5 = .int .i64 us.length) ?_ xs.length _ _ ⟨[], xs, ys, rfl, rfl, rfl, rfl, by simp [hl], by simp, by simp⟩
  rintro n ih e h' ⟨us, vs, ws, rfl, rfl, h1, h2, e0, e1, e5⟩
  cases vs with
  | nil =>
    have hw : ws = [] := by
      have h3 := hl
      rw [h1, h2] at h3
      simpa using h3
    subst hw
    have hxs : xs = us := by simpa using h1
    have hxy : xs = ys := by rw [h1, h2]
    have hll : us.length = xs.length := by rw [hxs]
    simp (maxSteps := 10000000) (disch := first | assumption | ((try simp only [push_next, put_next, adv_next, List.length_cons, List.length_nil, List.length_map, List.length_set]); omega) | simp) [e0, e5, hll, hxy]
  | cons x vs =>
    cases ws with
    | nil =>
      have h3 := hl
      rw [h1, h2] at h3
      simp at h3
    | cons y ws =>
      have hlt : (us.length : Int) < xs.length := by rw [h1]; simp; omega
      have hlt' : (us.length : Int) < ys.length := by omega
      obtain ⟨A, ro, C, hA, g1, k1⟩ := Sees.cell (f := (fun n => Value.int .i64 n)) (fun _ => rfl) rfl (us := us) (x := x) (vs := vs) (by rw [← h1]; exact hx)
      obtain ⟨A', ro', C', hA', g2, k2⟩ := Sees.cell (f := (fun n => Value.int .i64 n)) (fun _ => rfl) rfl (us := us) (x := y) (vs := ws) (by rw [← h2]; exact hy)
      by_cases hxy : x = y
      · simp (maxSteps := 10000000) (disch := first | assumption | ((try simp only [push_next, put_next, adv_next, List.length_cons, List.length_nil, List.length_map, List.length_set]); omega) | simp) [e0, e1, e5, hlt, hlt', hA, hA', g1, g2, k1, k2, hxy]
        apply ih vs.length (by simp)
        refine ⟨us ++ [x], vs, ws, rfl, rfl, by simp [h1], by simp [h2, hxy], by simp [e0, hA], by simp [e1, hA'], by simp⟩
      · have hne : xs ≠ ys := fun e => by rw [h1, h2] at e; simp [hxy] at e
        simp (maxSteps := 10000000) (disch := first | assumption | ((try simp only [push_next, put_next, adv_next, List.length_cons, List.length_nil, List.length_map, List.length_set]); omega) | simp) [e0, e1, e5, hlt, hlt', hA, hA', g1, g2, k1, k2, hxy, hne]
end Go.Proofs.Ytjobkhnanbkcjaa.Cd

/- What an operation asks and writes: the program's, the document's. -/
set_option maxRecDepth 1000000
set_option maxHeartbeats 8000000
set_option linter.unusedSimpArgs false
set_option linter.unusedVariables false
namespace Go.Proofs.Ytjobkhnanbkcjaa.Cd
open Go Go.Dx
section
variable {h : Hp} {q : Value → Hp → Prop} {b c : Nat} {x y z : Int} {o : IOp}
theorem ir_writes : WC T n_ir_Writes [.agg (encOp.enc o).toArray] h fun v h' => Sz h' v (iwrites o) ∧ Kp h h' := by
  have irr := fun (h : Hp) (q : Value → Hp → Prop) => ir_right (h := h) (q := q) (o := o)
  simp only [encOp] at irr
  have K0 : Kp h (((h.push (.cells false (encOp.enc o))).push (.cells false (encOp.enc o))).push (.cells false [.int .i64 o.d, .int .i64 o.a, .int .i64 o.b])) := ((((Kp.refl h).push _).push _).push _)
  simp only [encOp] at K0
  rw [w_ir_Writes]
  by_cases ho : o.ok
  case neg =>
    have e : iwrites o = [] := by unfold iwrites; rw [if_pos (.inl ho)]
    rw [e]
    simp (maxSteps := 10000000) (disch := first | assumption | ((try simp only [push_next, put_next, adv_next, List.length_cons, List.length_nil, List.length_map, List.length_set]); omega) | simp) [encOp, Hp.rdn, GC_of (fun q => irr _ q), ho]
    exact ⟨sz_nil, K0⟩
  by_cases hk : o.k = 0
  · have e : iwrites o = [] := by unfold iwrites; rw [if_pos (.inr hk)]
    rw [e]
    simp only [hk] at irr K0
    simp (maxSteps := 10000000) (disch := first | assumption | ((try simp only [push_next, put_next, adv_next, List.length_cons, List.length_nil, List.length_map, List.length_set]); omega) | simp) [encOp, Hp.rdn, GC_of (fun q => irr _ q), ho, hk]
    exact ⟨sz_nil, K0⟩
  have e0 : iwrites o = if 17 ≤ o.k ∧ o.k ≤ 20 then [32, 33] else if o.d = 0 then [] else [o.d] := by unfold iwrites; rw [if_neg (by simp [ho, hk])]
  rw [e0]
  by_cases k1 : 17 ≤ o.k
  · by_cases k2 : o.k ≤ 20
    · rw [if_pos ⟨k1, k2⟩]
      simp (maxSteps := 10000000) (disch := first | assumption | ((try simp only [push_next, put_next, adv_next, List.length_cons, List.length_nil, List.length_map, List.length_set]); omega) | simp) [encOp, Hp.rdn, GC_of (fun q => irr _ q), ho, hk, k1, k2]
      exact ⟨sz_of (r := [32, 33]) (k := []) rfl (get_push_at (by simp) (by simp)), K0.push _⟩
    · rw [if_neg (fun hh => k2 hh.2)]
      by_cases hd : o.d = 0
      · rw [if_pos hd]
        simp only [hd] at irr K0
        simp (maxSteps := 10000000) (disch := first | assumption | ((try simp only [push_next, put_next, adv_next, List.length_cons, List.length_nil, List.length_map, List.length_set]); omega) | simp) [encOp, Hp.rdn, GC_of (fun q => irr _ q), ho, hk, k1, k2, hd]
        exact ⟨sz_nil, K0⟩
      · rw [if_neg hd]
        simp (maxSteps := 10000000) (disch := first | assumption | ((try simp only [push_next, put_next, adv_next, List.length_cons, List.length_nil, List.length_map, List.length_set]); omega) | simp) [encOp, Hp.rdn, GC_of (fun q => irr _ q), ho, hk, k1, k2, hd]
        exact ⟨sz_of (r := [o.d]) (k := []) rfl (get_push_at (by simp) (by simp)), K0.push _⟩
  · rw [if_neg (fun hh => k1 hh.1)]
    by_cases hd : o.d = 0
    · rw [if_pos hd]
      simp only [hd] at irr K0
      simp (maxSteps := 10000000) (disch := first | assumption | ((try simp only [push_next, put_next, adv_next, List.length_cons, List.length_nil, List.length_map, List.length_set]); omega) | simp) [encOp, Hp.rdn, GC_of (fun q => irr _ q), ho, hk, k1, hd]
      exact ⟨sz_nil, K0⟩
    · rw [if_neg hd]
      simp (maxSteps := 10000000) (disch := first | assumption | ((try simp only [push_next, put_next, adv_next, List.length_cons, List.length_nil, List.length_map, List.length_set]); omega) | simp) [encOp, Hp.rdn, GC_of (fun q => irr _ q), ho, hk, k1, hd]
      exact ⟨sz_of (r := [o.d]) (k := []) rfl (get_push_at (by simp) (by simp)), K0.push _⟩
theorem ref_writes : WC T n_pianolaref18_Writes [.agg (encOp.enc o).toArray] h fun v h' => Sz h' v (iwrites o) ∧ Kp h h' := by
  have irr := fun (h : Hp) (q : Value → Hp → Prop) => ref_right (h := h) (q := q) (o := o)
  simp only [encOp] at irr
  have K0 : Kp h ((h.push (.cells false (encOp.enc o))).push (.cells false (encOp.enc o))) := (((Kp.refl h).push _).push _)
  simp only [encOp] at K0
  rw [w_pianolaref18_Writes]
  by_cases ho : o.ok
  case neg =>
    have e : iwrites o = [] := by unfold iwrites; rw [if_pos (.inl ho)]
    rw [e]
    simp (maxSteps := 10000000) (disch := first | assumption | ((try simp only [push_next, put_next, adv_next, List.length_cons, List.length_nil, List.length_map, List.length_set]); omega) | simp) [encOp, Hp.rdn, GC_of (fun q => irr _ q), ho]
    exact ⟨sz_nil, K0⟩
  by_cases hk : o.k = 0
  · have e : iwrites o = [] := by unfold iwrites; rw [if_pos (.inr hk)]
    rw [e]
    simp only [hk] at irr K0
    simp (maxSteps := 10000000) (disch := first | assumption | ((try simp only [push_next, put_next, adv_next, List.length_cons, List.length_nil, List.length_map, List.length_set]); omega) | simp) [encOp, Hp.rdn, GC_of (fun q => irr _ q), ho, hk]
    exact ⟨sz_nil, K0⟩
  have e0 : iwrites o = if 17 ≤ o.k ∧ o.k ≤ 20 then [32, 33] else if o.d = 0 then [] else [o.d] := by unfold iwrites; rw [if_neg (by simp [ho, hk])]
  rw [e0]
  by_cases k1 : 17 ≤ o.k
  · by_cases k2 : o.k ≤ 20
    · rw [if_pos ⟨k1, k2⟩]
      simp (maxSteps := 10000000) (disch := first | assumption | ((try simp only [push_next, put_next, adv_next, List.length_cons, List.length_nil, List.length_map, List.length_set]); omega) | simp) [encOp, Hp.rdn, GC_of (fun q => irr _ q), ho, hk, k1, k2]
      exact ⟨sz_of (r := [32, 33]) (k := []) rfl (get_push_at (by simp) (by simp)), K0.push _⟩
    · rw [if_neg (fun hh => k2 hh.2)]
      by_cases hd : o.d = 0
      · rw [if_pos hd]
        simp only [hd] at irr K0
        simp (maxSteps := 10000000) (disch := first | assumption | ((try simp only [push_next, put_next, adv_next, List.length_cons, List.length_nil, List.length_map, List.length_set]); omega) | simp) [encOp, Hp.rdn, GC_of (fun q => irr _ q), ho, hk, k1, k2, hd]
        exact ⟨sz_nil, K0⟩
      · rw [if_neg hd]
        simp (maxSteps := 10000000) (disch := first | assumption | ((try simp only [push_next, put_next, adv_next, List.length_cons, List.length_nil, List.length_map, List.length_set]); omega) | simp) [encOp, Hp.rdn, GC_of (fun q => irr _ q), ho, hk, k1, k2, hd]
        exact ⟨sz_of (r := [o.d]) (k := []) rfl (get_push_at (by simp) (by simp)), K0.push _⟩
  · rw [if_neg (fun hh => k1 hh.1)]
    by_cases hd : o.d = 0
    · rw [if_pos hd]
      simp only [hd] at irr K0
      simp (maxSteps := 10000000) (disch := first | assumption | ((try simp only [push_next, put_next, adv_next, List.length_cons, List.length_nil, List.length_map, List.length_set]); omega) | simp) [encOp, Hp.rdn, GC_of (fun q => irr _ q), ho, hk, k1, hd]
      exact ⟨sz_nil, K0⟩
    · rw [if_neg hd]
      simp (maxSteps := 10000000) (disch := first | assumption | ((try simp only [push_next, put_next, adv_next, List.length_cons, List.length_nil, List.length_map, List.length_set]); omega) | simp) [encOp, Hp.rdn, GC_of (fun q => irr _ q), ho, hk, k1, hd]
      exact ⟨sz_of (r := [o.d]) (k := []) rfl (get_push_at (by simp) (by simp)), K0.push _⟩
/-- Those of the first j cells that are in a row. -/
def srtj (l : List Int) (j : Nat) : List Int := ((List.range j).map Int.ofNat).filter fun c => decide (c ∈ l)
theorem srtj_succ (l : List Int) (j : Nat) : srtj l (j + 1) = if (j : Int) ∈ l then srtj l j ++ [(j : Int)] else srtj l j := by
  simp only [srtj, List.range_succ, List.map_append, List.filter_append, List.map_cons, List.map_nil]
  by_cases h : (j : Int) ∈ l
  · simp [h]
  · simp [h]
theorem srtj_len (l : List Int) (j : Nat) : (srtj l j).length ≤ j := by
  have := List.length_filter_le (fun c => decide (c ∈ l)) ((List.range j).map Int.ofNat)
  simpa [srtj] using this
theorem ref_sorted {a : Option Addr} {l : List Int} (hs : Sees encZ h a l) (hb : l.length < 2 ^ 63) : WC T n_pianolaref18_sorted [.slice a l.length c] h fun v h' => Sz h' v (srtd l) ∧ Kp h h' := by
  rw [w_pianolaref18_sorted]
  simp (maxSteps := 10000000) (disch := first | assumption | ((try simp only [push_next, put_next, adv_next, List.length_cons, List.length_nil, List.length_map, List.length_set]); omega) | simp)
  refine G_loop (fun n e h' => ∃ (j : Nat) (fp : List Nat), n = 40 - j ∧ j ≤ 40 ∧ Own encZ h' (e 3) (srtj l j) fp ∧ (∀ b ∈ fp, h.next ≤ b) ∧ Kp h h' ∧ e 0 = .slice a l.length c ∧ e 4 = .int .i64 j) ?_ 40 _ _ ⟨0, [], by simp, by simp, by simp [srtj]; exact .nul, by simp, .refl _, by simp, by simp⟩
  rintro n ih e h' ⟨j, fp, rfl, hj, O, hfp, K, e0, e4⟩
  by_cases h40 : j = 40
  · subst h40
    obtain ⟨a', c', hv, hs', _, _⟩ := O.len
    simp (maxSteps := 10000000) (disch := first | assumption | ((try simp only [push_next, put_next, adv_next, List.length_cons, List.length_nil, List.length_map, List.length_set]); omega) | simp) [e4]
    rw [hv]
    exact ⟨⟨a', c', rfl, hs'⟩, K⟩
  have hj2 : (j : Int) < 40 := by omega
  simp (maxSteps := 10000000) (disch := first | assumption | ((try simp only [push_next, put_next, adv_next, List.length_cons, List.length_nil, List.length_map, List.length_set]); omega) | simp) [e0, e4, hj2]
  refine G_loop (fun n e' h2 => ∃ us vs, n = vs.length ∧ l = us ++ vs ∧ h2 = h' ∧ e' 0 = .slice a l.length c ∧ e' 3 = e 3 ∧ e' 4 = .int .i64 j ∧ e' 5 = .bool (decide ((j : Int) ∈ us)) ∧ e' 6 = .int .i64 us.length) ?_ l.length _ _ ⟨[], l, rfl, rfl, rfl, by simp [e0], by simp, by simp [e4], by simp, by simp⟩
  rintro n ih2 e' h2 ⟨us, vs, rfl, hl, rfl, f0, f3, f4, f5, f6⟩
  cases vs with
  | nil =>
    have hlu : l = us := by simpa using hl
    have hll : l.length = us.length := by rw [hlu]
    by_cases hm : (j : Int) ∈ us
    · simp only [hm, decide_true] at f5
      simp (maxSteps := 10000000) (disch := first | assumption | ((try simp only [push_next, put_next, adv_next, List.length_cons, List.length_nil, List.length_map, List.length_set]); omega) | simp) [f0, f3, f4, f5, f6, hll]
      have hlen := srtj_len l j
      refine GV_app1 (E := encZ) (x := (j : Int)) O (by omega) (by omega) fun v' h3 fp' O' U => ?_
      simp (maxSteps := 10000000) (disch := first | assumption | ((try simp only [push_next, put_next, adv_next, List.length_cons, List.length_nil, List.length_map, List.length_set]); omega) | simp) [f4]
      refine ih (40 - (j + 1)) (by omega) _ _ ⟨j + 1, fp', rfl, by omega, ?_, fun b hb => ?_, U.kp' K hfp, by simp [f0, hll], by simp⟩
      · rw [srtj_succ, if_pos (by rw [hlu]; exact hm)]
        simpa using O'
      · rcases U.sub b hb with h1 | h1
        · exact hfp b h1
        · exact Nat.le_trans K.le h1
    · simp only [hm, decide_false] at f5
      simp (maxSteps := 10000000) (disch := first | assumption | ((try simp only [push_next, put_next, adv_next, List.length_cons, List.length_nil, List.length_map, List.length_set]); omega) | simp) [f0, f3, f4, f5, f6, hll]
      refine ih (40 - (j + 1)) (by omega) _ _ ⟨j + 1, fp, rfl, by omega, ?_, hfp, K, by simp [f0, hll], by simp⟩
      rw [srtj_succ, if_neg (by rw [hlu]; exact hm)]
      simpa [f3] using O
  | cons x vs =>
    have hlt : us.length < l.length := by rw [hl]; simp
    have hlt' : (us.length : Int) < l.length := by omega
    obtain ⟨A, ro, C, rfl, g1, k1⟩ := Sees.cell (f := fun n => Value.int .i64 n) (fun _ => rfl) rfl (us := us) (x := x) (vs := vs) (by rw [← hl]; exact hs.kp K)
    by_cases hm : (j : Int) ∈ us
    · simp only [hm, decide_true] at f5
      simp (maxSteps := 10000000) (disch := first | assumption | ((try simp only [push_next, put_next, adv_next, List.length_cons, List.length_nil, List.length_map, List.length_set]); omega) | simp) [f0, f3, f4, f5, f6, hlt', g1, k1]
      refine ih2 vs.length (by simp) _ _ ⟨us ++ [x], vs, rfl, by simp [hl], rfl, by simp [f0], by simp [f3], by simp [f4], by simp [hm], by simp⟩
    · simp only [hm, decide_false] at f5
      simp (maxSteps := 10000000) (disch := first | assumption | ((try simp only [push_next, put_next, adv_next, List.length_cons, List.length_nil, List.length_map, List.length_set]); omega) | simp) [f0, f3, f4, f5, f6, hlt', g1, k1]
      refine ih2 vs.length (by simp) _ _ ⟨us ++ [x], vs, rfl, by simp [hl], rfl, by simp [f0], by simp [f3], by simp [f4], ?_, by simp⟩
      simp [hm, eq_comm]
end
end Go.Proofs.Ytjobkhnanbkcjaa.Cd

/- Are two rows the same? -/
set_option maxRecDepth 1000000
set_option linter.unusedSimpArgs false
set_option linter.unusedVariables false
namespace Go.Proofs.Ytjobkhnanbkcjaa.Cd
open Go Go.Dx
theorem same_u32 {h : Hp} {q : Value → Hp → Prop} {a a' : Option Addr} {c c' : Nat} {xs ys : List (BitVec 32)} (hx : Sees encW h a xs) (hy : Sees encW h a' ys) (hb : xs.length < 2 ^ 63) : WC T n_pianolabook_Same_uint32 [.slice a xs.length c, .slice a' ys.length c'] h q ↔ q (.bool (decide (xs = ys))) h := by
  refine WC_iff ?_ q
  rw [w_pianolabook_Same_uint32]
  by_cases hl : xs.length = ys.length
  case neg =>
    have hne : xs ≠ ys := fun e => hl (by rw [e])
    have hl' : ¬ ((xs.length : Int) = ys.length) := by omega
    simp (maxSteps := 10000000) (disch := first | assumption | ((try simp only [push_next, put_next, adv_next, List.length_cons, List.length_nil, List.length_map, List.length_set]); omega) | simp) [hl', hne]
  simp (maxSteps := 10000000) (disch := first | assumption | ((try simp only [push_next, put_next, adv_next, List.length_cons, List.length_nil, List.length_map, List.length_set]); omega) | simp) [hl]
  refine G_loop (fun n e h' => ∃ us vs ws, n = vs.length ∧ h' = h ∧ xs = us ++ vs ∧ ys = us ++ ws ∧ e 0 = .slice a xs.length c ∧ e 1 = .slice a' ys.length c' ∧ e 5 = .int .i64 us.length) ?_ xs.length _ _ ⟨[], xs, ys, rfl, rfl, rfl, rfl, by simp [hl], by simp, by simp⟩
  rintro n ih e h' ⟨us, vs, ws, rfl, rfl, h1, h2, e0, e1, e5⟩
  cases vs with
  | nil =>
    have hw : ws = [] := by
      have h3 := hl
      rw [h1, h2] at h3
      simpa using h3
    subst hw
    have hxs : xs = us := by simpa using h1
    have hxy : xs = ys := by rw [h1, h2]
    have hll : us.length = xs.length := by rw [hxs]
    simp (maxSteps := 10000000) (disch := first | assumption | ((try simp only [push_next, put_next, adv_next, List.length_cons, List.length_nil, List.length_map, List.length_set]); omega) | simp) [e0, e5, hll, hxy]
  | cons x vs =>
    cases ws with
    | nil =>
      have h3 := hl
      rw [h1, h2] at h3
      simp at h3
    | cons y ws =>
      have hlt : (us.length : Int) < xs.length := by rw [h1]; simp; omega
      have hlt' : (us.length : Int) < ys.length := by omega
      obtain ⟨A, ro, C, hA, g1, k1⟩ := Sees.cell (f := u32) (fun _ => rfl) rfl (us := us) (x := x) (vs := vs) (by rw [← h1]; exact hx)
      obtain ⟨A', ro', C', hA', g2, k2⟩ := Sees.cell (f := u32) (fun _ => rfl) rfl (us := us) (x := y) (vs := ws) (by rw [← h2]; exact hy)
      by_cases hxy : x = y
      · simp (maxSteps := 10000000) (disch := first | assumption | ((try simp only [push_next, put_next, adv_next, List.length_cons, List.length_nil, List.length_map, List.length_set]); omega) | simp) [e0, e1, e5, hlt, hlt', hA, hA', g1, g2, k1, k2, hxy]
        apply ih vs.length (by simp)
        refine ⟨us ++ [x], vs, ws, rfl, rfl, by simp [h1], by simp [h2, hxy], by simp [e0, hA], by simp [e1, hA'], by simp⟩
      · have hne : xs ≠ ys := fun e => by rw [h1, h2] at e; simp [hxy] at e
        simp (maxSteps := 10000000) (disch := first | assumption | ((try simp only [push_next, put_next, adv_next, List.length_cons, List.length_nil, List.length_map, List.length_set]); omega) | simp) [e0, e1, e5, hlt, hlt', hA, hA', g1, g2, k1, k2, hxy, hne]
end Go.Proofs.Ytjobkhnanbkcjaa.Cd

/- Small operations: what the laws' own functions do. -/
set_option maxRecDepth 1000000
set_option maxHeartbeats 8000000
set_option linter.unusedSimpArgs false
set_option linter.unusedVariables false
namespace Go.Proofs.Ytjobkhnanbkcjaa.Cd
open Go Go.Dx
section
variable {h : Hp} {q : Value → Hp → Prop} {b c : Nat} {x y z : Int} {o : IOp}
theorem sees_blk {l : List Int} {ro : Bool} (hg : h.get b = some (.cells ro (l.map (Value.int .i64)))) : Sees encZ h (some ⟨b, 0, none⟩) l := ⟨fun hA => (by cases hA), fun A hA => by
  cases hA
  simp only [Hp.rdn, Hp.cells, hg, Option.bind_some, Nat.zero_add, encZ_sz, Nat.mul_one]
  rw [if_pos (by simp), encZ_all, List.drop_zero, List.take_of_length_le (by simp)], fun A hA => (by cases hA; exact .inl rfl)⟩
theorem veq_op {k d a b : Int} {w : BitVec 32} : veq (.agg #[.int .i64 k, .int .i64 d, .int .i64 a, .int .i64 b, u32 w]) (.agg #[.int .i64 k, .int .i64 d, .int .i64 a, .int .i64 b, u32 w]) = true := by
  simp [veq, veqF, veqL, u32]
theorem ref_reads : WC T n_pianolaref18_Reads [.agg (encOp.enc o).toArray] h fun v h' => Sz h' v (ireads o) ∧ Kp h h' := by
  have irr := fun (h : Hp) (q : Value → Hp → Prop) => ref_right (h := h) (q := q) (o := o)
  simp only [encOp] at irr
  have K0 : Kp h ((h.push (.cells false (encOp.enc o))).push (.cells false (encOp.enc o))) := (((Kp.refl h).push _).push _)
  simp only [encOp] at K0
  rw [w_pianolaref18_Reads]
  by_cases ho : o.ok
  case neg =>
    have e : ireads o = [] := by unfold ireads; rw [if_pos (.inl ho)]
    rw [e]
    simp (maxSteps := 10000000) (disch := first | assumption | ((try simp only [push_next, put_next, adv_next, List.length_cons, List.length_nil, List.length_map, List.length_set]); omega) | simp) [encOp, Hp.rdn, GC_of (fun q => irr _ q), ho]
    exact ⟨sz_nil, K0⟩
  have ho' := ho
  obtain ⟨⟨d0, d1⟩, ⟨a0, a1⟩, ⟨b0, b1⟩, k0, k1⟩ := ho'
  by_cases hk : o.k ≤ 1
  · have e : ireads o = [] := by unfold ireads; rw [if_pos (.inr (by omega))]
    rw [e]
    simp (maxSteps := 10000000) (disch := first | assumption | ((try simp only [push_next, put_next, adv_next, List.length_cons, List.length_nil, List.length_map, List.length_set]); omega) | simp) [encOp, Hp.rdn, GC_of (fun q => irr _ q), ho, hk]
    exact ⟨sz_nil, K0⟩
  have h3 : ¬ (¬ o.ok ∨ o.k = 0 ∨ o.k = 1) := by simp [ho]; omega
  have e0 : ireads o = if o.k = 2 ∨ o.k = 15 ∨ o.k = 16 then srtd [o.a] else if o.k = 21 ∨ o.k = 22 then srtd [o.a, o.b, o.d] else srtd [o.a, o.b] := by unfold ireads; rw [if_neg h3]
  by_cases hk1 : o.k = 2 ∨ o.k = 15 ∨ o.k = 16
  · rw [e0, if_pos hk1]
    rcases hk1 with hk1 | hk1 | hk1 <;>
    · simp only [hk1] at irr K0
      simp (maxSteps := 10000000) (disch := first | assumption | ((try simp only [push_next, put_next, adv_next, List.length_cons, List.length_nil, List.length_map, List.length_set]); omega) | simp) [encOp, Hp.rdn, GC_of (fun q => irr _ q), ho, hk1]
      refine GC_intro (ref_sorted (l := [o.a]) (sees_blk (ro := false) (get_push_at (by simp) (by simp))) (by simp)) fun v h2 ⟨hz, K⟩ => ?_
      simp (maxSteps := 10000000) (disch := first | assumption | ((try simp only [push_next, put_next, adv_next, List.length_cons, List.length_nil, List.length_map, List.length_set]); omega) | simp)
      exact ⟨hz, (K0.push _).trans K⟩
  have hk1' : o.k ≠ 2 ∧ o.k ≠ 15 ∧ o.k ≠ 16 := by omega
  by_cases hk2 : 21 ≤ o.k
  · rw [e0, if_neg hk1, if_pos (by omega)]
    simp (maxSteps := 10000000) (disch := first | assumption | ((try simp only [push_next, put_next, adv_next, List.length_cons, List.length_nil, List.length_map, List.length_set]); omega) | simp) [encOp, Hp.rdn, GC_of (fun q => irr _ q), ho, hk, hk1', hk2]
    refine GC_intro (ref_sorted (l := [o.a, o.b, o.d]) (sees_blk (ro := false) (get_push_at (by simp) (by simp))) (by simp)) fun v h2 ⟨hz, K⟩ => ?_
    simp (maxSteps := 10000000) (disch := first | assumption | ((try simp only [push_next, put_next, adv_next, List.length_cons, List.length_nil, List.length_map, List.length_set]); omega) | simp)
    exact ⟨hz, (K0.push _).trans K⟩
  · rw [e0, if_neg hk1, if_neg (by omega)]
    simp (maxSteps := 10000000) (disch := first | assumption | ((try simp only [push_next, put_next, adv_next, List.length_cons, List.length_nil, List.length_map, List.length_set]); omega) | simp) [encOp, Hp.rdn, GC_of (fun q => irr _ q), ho, hk, hk1', hk2]
    refine GC_intro (ref_sorted (l := [o.a, o.b]) (sees_blk (ro := false) (get_push_at (by simp) (by simp))) (by simp)) fun v h2 ⟨hz, K⟩ => ?_
    simp (maxSteps := 10000000) (disch := first | assumption | ((try simp only [push_next, put_next, adv_next, List.length_cons, List.length_nil, List.length_map, List.length_set]); omega) | simp)
    exact ⟨hz, (K0.push _).trans K⟩
theorem iwrites_len (o : IOp) : (iwrites o).length < 2 ^ 63 := by
  unfold iwrites
  split
  · simp
  · split
    · simp
    · split <;> simp
theorem srtd_len (l : List Int) : (srtd l).length < 2 ^ 63 := by
  have := List.length_filter_le (fun c => decide (c ∈ l)) ((List.range 40).map Int.ofNat)
  simp at this
  simp only [srtd]
  omega
theorem ireads_len (o : IOp) : (ireads o).length < 2 ^ 63 := by
  unfold ireads
  split
  · simp
  · split
    · exact srtd_len _
    · split <;> exact srtd_len _
theorem tells : WC T n_pianolalaw18_tells [.agg (encOp.enc o).toArray] h fun v h' => v = .bool true ∧ Kp h h' := by
  have irr := fun (h : Hp) (q : Value → Hp → Prop) => ir_right (h := h) (q := q) (o := o)
  have irr2 := fun (h : Hp) (q : Value → Hp → Prop) => ref_right (h := h) (q := q) (o := o)
  simp only [encOp] at irr irr2
  have K0 : Kp h ((((h.push (.cells false (encOp.enc o))).push (.cells false (encOp.enc o))).push (.cells false [.int .i64 o.d, .int .i64 o.a, .int .i64 o.b])).push (.cells false (encOp.enc o))) := (((((Kp.refl h).push _).push _).push _).push _)
  simp only [encOp] at K0
  rw [w_pianolalaw18_tells]
  simp (maxSteps := 10000000) (disch := first | assumption | ((try simp only [push_next, put_next, adv_next, List.length_cons, List.length_nil, List.length_map, List.length_set]); omega) | simp) [encOp, Hp.rdn, veq_op, GC_of (fun q => irr _ q), GCI_of (fun q => irr _ q), GC_of (fun q => irr2 _ q), GCI_of (fun q => irr2 _ q)]
  generalize hH : (((h.push (.cells false [.int .i64 o.k, .int .i64 o.d, .int .i64 o.a, .int .i64 o.b, u32 o.imm])).push (.cells false [.int .i64 o.k, .int .i64 o.d, .int .i64 o.a, .int .i64 o.b, u32 o.imm])).push (.cells false [.int .i64 o.d, .int .i64 o.a, .int .i64 o.b])).push (.cells false [.int .i64 o.k, .int .i64 o.d, .int .i64 o.a, .int .i64 o.b, u32 o.imm]) = H at *
  have y0 : H.get h.next = some (.cells false [.int .i64 o.k, .int .i64 o.d, .int .i64 o.a, .int .i64 o.b, u32 o.imm]) := by
    rw [← hH, get_push_ne (by simp; omega), get_push_ne (by simp; omega), get_push_ne (by simp), get_push_self]
  have hlt := lt_of_get y0
  refine GCI_intro ir_reads fun v1 h1 ⟨s1, K1⟩ => ?_
  have y1 : h1.get h.next = _ := (K1.get _ hlt).trans y0
  have hlt1 := lt_of_get y1
  simp (maxSteps := 10000000) (disch := first | assumption | ((try simp only [push_next, put_next, adv_next, List.length_cons, List.length_nil, List.length_map, List.length_set]); omega) | simp) [y1, Hp.rdn, veq_op]
  refine GCI_intro ref_reads fun v2 h2 ⟨s2, K2⟩ => ?_
  have y2 : h2.get h.next = _ := (K2.get _ hlt1).trans y1
  have hlt2 := lt_of_get y2
  obtain ⟨a1, c1, rfl, s1⟩ := s1
  obtain ⟨a2, c2, rfl, s2⟩ := s2
  simp (maxSteps := 10000000) (disch := first | assumption | ((try simp only [push_next, put_next, adv_next, List.length_cons, List.length_nil, List.length_map, List.length_set]); omega) | simp) [GCI_of (fun q => same_int (s1.kp K2) s2 (ireads_len o)), y2, Hp.rdn, veq_op]
  refine GCI_intro ir_writes fun v3 h3 ⟨s3, K3⟩ => ?_
  have y3 : h3.get h.next = _ := (K3.get _ hlt2).trans y2
  have hlt3 := lt_of_get y3
  simp (maxSteps := 10000000) (disch := first | assumption | ((try simp only [push_next, put_next, adv_next, List.length_cons, List.length_nil, List.length_map, List.length_set]); omega) | simp) [y3, Hp.rdn, veq_op]
  refine GCI_intro ref_writes fun v4 h4 ⟨s4, K4⟩ => ?_
  obtain ⟨a3, c3, rfl, s3⟩ := s3
  obtain ⟨a4, c4, rfl, s4⟩ := s4
  simp (maxSteps := 10000000) (disch := first | assumption | ((try simp only [push_next, put_next, adv_next, List.length_cons, List.length_nil, List.length_map, List.length_set]); omega) | simp) [GCI_of (fun q => same_int (s3.kp K4) s4 (iwrites_len o))]
  exact (((K0.trans K1).trans K2).trans K3).trans K4
end
end Go.Proofs.Ytjobkhnanbkcjaa.Cd

/- Small operations: rows of cells, what the program and the document leave in them. -/
set_option maxRecDepth 1000000
set_option maxHeartbeats 8000000
set_option linter.unusedSimpArgs false
set_option linter.unusedVariables false
namespace Go.Proofs.Ytjobkhnanbkcjaa.Cd
open Go Go.Dx
section
variable {h : Hp} {q : Value → Hp → Prop} {b c c' : Nat} {o : IOp} {a a' : Option Addr} {l : List (BitVec 32)} {L : List IOp} {R : Regs} {cp : Nat}
theorem regs_of (hs : Sees encW h a l) (hb : l.length < 2 ^ 63) : WC T n_pianolalaw18_regs [.slice a l.length c] h fun v h' => v = .agg ((rgs l).map u32).toArray ∧ Kp h h' := by
  rw [w_pianolalaw18_regs]
  simp (maxSteps := 10000000) (disch := first | assumption | ((try simp only [push_next, put_next, adv_next, List.length_cons, List.length_nil, List.length_map, List.length_set]); omega) | simp) [-List.reduceReplicate]
  have z1 : List.replicate 40 (u32 0#32) = (rgsj l 1).map u32 := by rw [rgsj_one, List.map_replicate]
  rw [z1]
  refine G_loop (fun n e h' => ∃ j : Nat, n = 40 - j ∧ 1 ≤ j ∧ j ≤ 40 ∧ Kp h h' ∧ h'.get h.next = some (.cells false ((rgsj l 1).map u32)) ∧ h'.get (h.next + 1) = some (.cells false ((rgsj l j).map u32)) ∧ e 0 = .slice a l.length c ∧ e 2 = ptr h.next 0 ∧ e 3 = ptr (h.next + 1) 0 ∧ e 4 = .int .i64 j) ?_ 39 _ _ ⟨1, rfl, by omega, by omega, (((Kp.refl h).push _).push _), ?_, ?_, by simp, by simp, by simp, by simp⟩
  case refine_2 => rw [get_push_ne (by simp), get_push_self]
  case refine_3 => exact get_push_self (h := h.push _)
  rintro n ih e h' ⟨j, rfl, h1, hj, K, g0, g1, e0, e2, e3, e4⟩
  have hlt := lt_of_get g1
  have done : rgsj l j = rgs l → h'.rdn (h.next + 1) 0 40 = some ((rgs l).map u32) ∧ h'.wr h.next 0 ((rgs l).map u32) = some (h'.put h.next (some (.cells false ((rgs l).map u32)))) ∧ (h'.put h.next (some (.cells false ((rgs l).map u32)))).rdn h.next 0 40 = some ((rgs l).map u32) := by
    intro hr
    rw [hr] at g1
    exact ⟨rdn_all (n := 40) g1 (by simp), wr_all (vs := (rgs l).map u32) g0 (by simp) (all_u32 _), rdn_all (ro := false) (get_put_self (by omega)) (by simp)⟩
  by_cases h40 : j = 40
  · subst h40
    obtain ⟨r1, w1, r2⟩ := done rfl
    simp (maxSteps := 10000000) (disch := first | assumption | ((try simp only [push_next, put_next, adv_next, List.length_cons, List.length_nil, List.length_map, List.length_set]); omega) | simp) [e2, e3, e4, r1, w1, r2, -Hp.wr]
    exact K.put (Nat.le_refl _) _
  have hj2 : (j : Int) < 40 := by omega
  have hj3 : j ≤ 39 := by omega
  by_cases hl : j < l.length
  case neg =>
    have hl' : ¬ ((j : Int) < l.length) := by omega
    obtain ⟨r1, w1, r2⟩ := done (rgsj_end (by omega))
    simp (maxSteps := 10000000) (disch := first | assumption | ((try simp only [push_next, put_next, adv_next, List.length_cons, List.length_nil, List.length_map, List.length_set]); omega) | simp) [e0, e2, e3, e4, hj2, hl, hl', r1, w1, r2, -Hp.wr]
    exact K.put (Nat.le_refl _) _
  have hl' : (j : Int) < l.length := by omega
  obtain ⟨us, x, vs, hx, hu⟩ : ∃ us x vs, l = us ++ x :: vs ∧ us.length = j := ⟨l.take j, l[j], l.drop (j + 1), by simp, by simp; omega⟩
  obtain ⟨A, ro, C, rfl, k1, k2⟩ := Sees.cell (f := u32) (fun _ => rfl) rfl (us := us) (x := x) (vs := vs) (by rw [← hx]; exact hs.kp K)
  rw [hu] at k2
  have hxj : l[j]? = some x := by rw [hx, ← hu]; simp
  have o1 := fun (l : List Value) n v => over_set (l := l) (i := n) (v := v)
  simp (maxSteps := 10000000) (disch := first | assumption | ((try simp only [push_next, put_next, adv_next, List.length_cons, List.length_nil, List.length_map, List.length_set]); omega) | simp) [e0, e3, e4, hj2, hj3, hl, hl', k1, k2, g1, -over, o1]
  refine ih (40 - (j + 1)) (by omega) _ _ ⟨j + 1, rfl, by omega, by omega, K.put (by omega) _, ?_, ?_, by simp [e0], by simp [e2], by simp [e3], by simp⟩
  · rw [get_put_ne (by omega), g0]
  · rw [get_put_self hlt, ← rgsj_set h1 (by omega) hxj, List.map_set]
theorem ref_run (hR : R.length = 40) (hg : h.get b = some (.cells false (R.map u32))) (hs : Sees encOp h a L) (hac : ∀ A, a = some A → A.block ≠ b) (hb : L.length < 2 ^ 63)
    (hq : ∀ h', h'.get b = some (.cells false ((if oks L then irun R L else R).map u32)) → Upd h h' [b] [b] → q (.bool (decide (oks L))) h') : WC T n_pianolaref18_Run [.slice (some ⟨b, 0, none⟩) 40 cp, .slice a L.length c] h q := by
  have hlt := lt_of_get hg
  have irr := fun (h : Hp) (q : Value → Hp → Prop) (o : IOp) => ref_right (h := h) (q := q) (o := o)
  simp only [encOp] at irr
  rw [w_pianolaref18_Run]
  simp (maxSteps := 10000000) (disch := first | assumption | ((try simp only [push_next, put_next, adv_next, List.length_cons, List.length_nil, List.length_map, List.length_set]); omega) | simp)
  refine G_loop (fun n e h' => ∃ us vs, n = vs.length ∧ L = us ++ vs ∧ (∀ o ∈ us, o.ok) ∧ Kp h h' ∧ e 0 = .slice (some ⟨b, 0, none⟩) 40 cp ∧ e 1 = .slice a L.length c ∧ e 5 = .int .i64 us.length) ?_ L.length _ _ ⟨[], L, rfl, rfl, by simp, .refl _, by simp, by simp, by simp⟩
  rintro n ih e h' ⟨us, vs, rfl, hx, hu, K, e0, e1, e5⟩
  cases vs with
  | cons o vs =>
    have hl : us.length < L.length := by rw [hx]; simp
    have hl' : (us.length : Int) < L.length := by omega
    obtain ⟨A, rfl, hr⟩ := Sees.mid (A := us) (x := o) (B := vs) (by rw [← hx]; exact hs.kp K)
    have hr' : h'.rdn A.block (A.off + us.length * 5) 5 = some [.int .i64 o.k, .int .i64 o.d, .int .i64 o.a, .int .i64 o.b, u32 o.imm] := hr
    by_cases ho : o.ok
    · simp (maxSteps := 10000000) (disch := first | assumption | ((try simp only [push_next, put_next, adv_next, List.length_cons, List.length_nil, List.length_map, List.length_set]); omega) | simp) [e0, e1, e5, hl', hr', GC_of (fun q => irr _ q _), ho]
      refine ih vs.length (by simp) _ _ ⟨us ++ [o], vs, rfl, by simp [hx], fun x hx => ?_, K.push _, by simp [e0], by simp [e1], by simp⟩
      rcases List.mem_append.1 hx with h1 | h1
      · exact hu x h1
      · simp at h1; subst h1; exact ho
    · simp (maxSteps := 10000000) (disch := first | assumption | ((try simp only [push_next, put_next, adv_next, List.length_cons, List.length_nil, List.length_map, List.length_set]); omega) | simp) [e0, e1, e5, hl', hr', GC_of (fun q => irr _ q _), ho]
      have hn : ¬ oks L := fun hh => ho (hh o (by rw [hx]; simp))
      have := hq (h'.push (.cells false [.int .i64 o.k, .int .i64 o.d, .int .i64 o.a, .int .i64 o.b, u32 o.imm])) (by rw [if_neg hn, (K.push _).get b hlt, hg]) ((K.push _).upd _)
      simpa [hn] using this
  | nil =>
    have hL : L = us := by simpa using hx
    have hl : L.length = us.length := by rw [hL]
    have hok : oks L := by rw [hL]; exact hu
    rw [if_pos hok] at hq
    simp only [hok, decide_true] at hq
    simp (maxSteps := 10000000) (disch := first | assumption | ((try simp only [push_next, put_next, adv_next, List.length_cons, List.length_nil, List.length_map, List.length_set]); omega) | simp) [e0, e1, e5, hl]
    have hg' : h'.get b = some (.cells false (R.map u32)) := by rw [K.get b hlt, hg]
    refine G_loop (fun n e h2 => ∃ us vs, n = vs.length ∧ L = us ++ vs ∧ Upd h h2 [b] [b] ∧ h2.get b = some (.cells false ((irun R us).map u32)) ∧ e 0 = .slice (some ⟨b, 0, none⟩) 40 cp ∧ e 1 = .slice a L.length c ∧ e 6 = .int .i64 us.length) ?_ L.length _ _ ⟨[], L, rfl, rfl, K.upd _, by simpa using hg', by simp [e0], by simp [e1, hl], by simp⟩
    clear ih e0 e1 e5 K hg' hx hu
    rintro n ih e h2 ⟨us, vs, rfl, hx, U, hg2, e0, e1, e6⟩
    cases vs with
    | nil =>
      have hL : L = us := by simpa using hx
      have hl : L.length = us.length := by rw [hL]
      simp (maxSteps := 10000000) (disch := first | assumption | ((try simp only [push_next, put_next, adv_next, List.length_cons, List.length_nil, List.length_map, List.length_set]); omega) | simp) [e0, e1, e6, hl]
      exact hq _ (by rw [hg2, hL]) U
    | cons o vs =>
      have hl : us.length < L.length := by rw [hx]; simp
      have hl' : (us.length : Int) < L.length := by omega
      obtain ⟨A, rfl, hr⟩ := Sees.mid (A := us) (x := o) (B := vs) (by rw [← hx]; exact hs)
      have hr' : h2.rdn A.block (A.off + us.length * 5) 5 = some [.int .i64 o.k, .int .i64 o.d, .int .i64 o.a, .int .i64 o.b, u32 o.imm] := rdn_kp hr (U.get _ (lt_of_rdn hr) (by simpa using hac A rfl))
      simp (maxSteps := 10000000) (disch := first | assumption | ((try simp only [push_next, put_next, adv_next, List.length_cons, List.length_nil, List.length_map, List.length_set]); omega) | simp) [e0, e1, e6, hl', hr']
      refine GC_intro (ref_one (o := o) (q := fun v h3 => h3.get b = some (.cells false ((ido (irun R us) o).map u32)) ∧ Upd h2 h3 [b] [b]) (hok o (by rw [hx]; simp)) (by simp [hR]) hg2 (fun h3 g3 u3 => ⟨g3, u3⟩)) fun v h3 ⟨g3, u3⟩ => ?_
      simp (maxSteps := 10000000) (disch := first | assumption | ((try simp only [push_next, put_next, adv_next, List.length_cons, List.length_nil, List.length_map, List.length_set]); omega) | simp) [e6]
      refine ih vs.length (by simp) _ _ ⟨us ++ [o], vs, rfl, by rw [hx]; simp, U.trans u3, ?_, by simp [e0], by simp [e1], by simp⟩
      rw [g3, irun_append]
      rfl
end
end Go.Proofs.Ytjobkhnanbkcjaa.Cd

/- Small operations: the laws' runs. -/
set_option maxRecDepth 1000000
set_option maxHeartbeats 8000000
set_option linter.unusedSimpArgs false
set_option linter.unusedVariables false
namespace Go.Proofs.Ytjobkhnanbkcjaa.Cd
open Go Go.Dx
section
variable {h : Hp} {q : Value → Hp → Prop} {b c c' : Nat} {o : IOp} {a a' : Option Addr} {l : List (BitVec 32)} {L : List IOp} {R : Regs} {cp : Nat}
theorem within_eq {n lo hi : Int} (h0 : -1000000000000000 ≤ lo) (h1 : lo ≤ hi) (h2 : hi ≤ 4000000000000000000) : WC T n_pianolabook_Within [.int .i64 n, .int .i64 lo, .int .i64 hi] h q ↔ q (.int .i64 (wi n lo hi)) h := by
  rw [w_pianolabook_Within]
  have hne : hi - lo + 1 ≠ 0 := by omega
  have he := tmod_emod (n := n) (m := hi - lo + 1) (by omega)
  have hw : n.tmod (hi - lo + 1) < hi - lo + 1 := Int.tmod_lt_of_pos _ (by omega)
  have hw' : - (hi - lo + 1) < n.tmod (hi - lo + 1) := by
    have := Int.tmod_lt_of_pos (-n) (show 0 < hi - lo + 1 by omega)
    rw [Int.neg_tmod] at this
    omega
  unfold wi
  by_cases c1 : lo ≤ n
  · by_cases c2 : n ≤ hi
    · simp (maxSteps := 10000000) (disch := first | assumption | ((try simp only [push_next, put_next, adv_next, List.length_cons, List.length_nil, List.length_map, List.length_set]); omega) | simp) [c1, c2]
    · by_cases c3 : n.tmod (hi - lo + 1) < 0
      · simp (maxSteps := 10000000) (disch := first | assumption | ((try simp only [push_next, put_next, adv_next, List.length_cons, List.length_nil, List.length_map, List.length_set]); omega) | simp) [c1, c2, c3, hne]
        rw [he, if_pos c3]
        have e : lo + (n.tmod (hi - lo + 1) + hi - lo + 1) = lo + (n.tmod (hi - lo + 1) + (hi - lo + 1)) := by omega
        rw [e]
      · simp (maxSteps := 10000000) (disch := first | assumption | ((try simp only [push_next, put_next, adv_next, List.length_cons, List.length_nil, List.length_map, List.length_set]); omega) | simp) [c1, c2, c3, hne]
        rw [he, if_neg c3]
  · by_cases c3 : n.tmod (hi - lo + 1) < 0
    · simp (maxSteps := 10000000) (disch := first | assumption | ((try simp only [push_next, put_next, adv_next, List.length_cons, List.length_nil, List.length_map, List.length_set]); omega) | simp) [c1, c3, hne]
      rw [he, if_pos c3]
      have e : lo + (n.tmod (hi - lo + 1) + hi - lo + 1) = lo + (n.tmod (hi - lo + 1) + (hi - lo + 1)) := by omega
      rw [e]
    · simp (maxSteps := 10000000) (disch := first | assumption | ((try simp only [push_next, put_next, adv_next, List.length_cons, List.length_nil, List.length_map, List.length_set]); omega) | simp) [c1, c3, hne]
      rw [he, if_neg c3]
theorem sees_w {l : List (BitVec 32)} {ro : Bool} (hg : h.get b = some (.cells ro (l.map u32))) : Sees encW h (some ⟨b, 0, none⟩) l := ⟨fun hA => (by cases hA), fun A hA => by
  cases hA
  simp only [Hp.rdn, Hp.cells, hg, Option.bind_some, Nat.zero_add, encW_sz, Nat.mul_one]
  rw [if_pos (by simp), encW_all, List.drop_zero, List.take_of_length_le (by simp)], fun A hA => (by cases hA; exact .inl rfl)⟩
theorem runs (hs : Sees encW h a l) (hb : l.length < 2 ^ 63) (hL : Sees encOp h a' L) (hb' : L.length < 2 ^ 63) : WC T n_pianolalaw18_runs [.slice a l.length c, .slice a' L.length c'] h fun v h' => v = .bool true ∧ Kp h h' := by
  rw [w_pianolalaw18_runs]
  simp (maxSteps := 10000000) (disch := first | assumption | ((try simp only [push_next, put_next, adv_next, List.length_cons, List.length_nil, List.length_map, List.length_set]); omega) | simp)
  refine GC_intro (regs_of hs hb) fun v h1 ⟨hv, K1⟩ => ?_
  subst hv
  simp (maxSteps := 10000000) (disch := first | assumption | ((try simp only [push_next, put_next, adv_next, List.length_cons, List.length_nil, List.length_map, List.length_set]); omega) | simp) [-List.reduceReplicate, -Hp.wr, all_u32]
  generalize hH1 : h1.push (.cells false ((rgs l).map u32)) = H1
  have g1 : H1.get h1.next = some (.cells false ((rgs l).map u32)) := by rw [← hH1, get_push_self]
  have KH1 : Kp h H1 := by rw [← hH1]; exact K1.push _
  have l1 := lt_of_get g1
  refine GC_intro (regs_of (hs.kp KH1) hb) fun v h2 ⟨hv, K2⟩ => ?_
  subst hv
  simp (maxSteps := 10000000) (disch := first | assumption | ((try simp only [push_next, put_next, adv_next, List.length_cons, List.length_nil, List.length_map, List.length_set]); omega) | simp) [-List.reduceReplicate, -Hp.wr, all_u32]
  generalize hH2 : h2.push (.cells false ((rgs l).map u32)) = H2
  have g2 : H2.get h2.next = some (.cells false ((rgs l).map u32)) := by rw [← hH2, get_push_self]
  have KH2 : Kp H1 H2 := by rw [← hH2]; exact K2.push _
  have l2 := lt_of_get g2
  have n12 : h1.next < h2.next := Nat.lt_of_lt_of_le l1 K2.le
  have g12 : H2.get h1.next = some (.cells false ((rgs l).map u32)) := (KH2.get _ l1).trans g1
  have hLa : ∀ A, a' = some A → A.block < h.next := fun A hA => lt_of_rdn (hL.get A hA)
  have KH : Kp h H2 := KH1.trans KH2
  have nh := K1.le
  refine GC_intro (ir_run (q := fun v h3 => v = .bool (decide (oks L)) ∧ h3.get h1.next = some (.cells false ((if oks L then irun (rgs l) L else rgs l).map u32)) ∧ Upd H2 h3 [h1.next] [h1.next]) (rgs_length l) g12 (hL.kp KH) (fun A hA => by have := hLa A hA; omega) hb' fun h3 g3 u3 => ⟨rfl, by rw [g3, set_zero (rgs_zero l)], u3⟩) fun v h3 ⟨hv, g3, u3⟩ => ?_
  subst hv
  simp (maxSteps := 10000000) (disch := first | assumption | ((try simp only [push_next, put_next, adv_next, List.length_cons, List.length_nil, List.length_map, List.length_set]); omega) | simp)
  have g32 : h3.get h2.next = some (.cells false ((rgs l).map u32)) := by rw [u3.get _ l2 (by simp; omega), g2]
  have hL3 : Sees encOp h3 a' L := (hL.kp KH).upd u3 (fun A hA => by have := hLa A hA; simp; omega)
  refine GC_intro (ref_run (q := fun v h4 => v = .bool (decide (oks L)) ∧ h4.get h2.next = some (.cells false ((if oks L then irun (rgs l) L else rgs l).map u32)) ∧ Upd h3 h4 [h2.next] [h2.next]) (rgs_length l) g32 hL3 (fun A hA => by have := hLa A hA; omega) hb' fun h4 g4 u4 => ⟨rfl, g4, u4⟩) fun v h4 ⟨hv, g4, u4⟩ => ?_
  subst hv
  have g41 : h4.get h1.next = some (.cells false ((if oks L then irun (rgs l) L else rgs l).map u32)) := by rw [u4.get _ (lt_of_get g3) (by simp; omega), g3]
  simp (maxSteps := 10000000) (disch := first | assumption | ((try simp only [push_next, put_next, adv_next, List.length_cons, List.length_nil, List.length_map, List.length_set]); omega) | simp)
  generalize hX : (if oks L then irun (rgs l) L else rgs l) = X at g4 g41
  have hXl : X.length = 40 := by rw [← hX]; split <;> simp
  have same := fun q => same_u32 (q := q) (c := 40) (c' := 40) (sees_w g41) (sees_w g4) (by omega)
  rw [hXl] at same
  simp (maxSteps := 10000000) (disch := first | assumption | ((try simp only [push_next, put_next, adv_next, List.length_cons, List.length_nil, List.length_map, List.length_set]); omega) | simp) [GC_of same]
  exact ⟨Nat.le_trans KH.le (Nat.le_trans u3.le u4.le), fun k hk => by rw [u4.get _ (by have := KH.le; have := u3.le; omega) (by simp; omega), u3.get _ (by have := KH.le; omega) (by simp; omega), KH.get _ hk]⟩
theorem run_nil : WC T n_ir_Run [.pointer none, .slice none 0 0] h q ↔ q (.bool false) h := by
  rw [w_ir_Run]
  simp (maxSteps := 10000000) (disch := first | assumption | ((try simp only [push_next, put_next, adv_next, List.length_cons, List.length_nil, List.length_map, List.length_set]); omega) | simp)
def L0 : List IOp := [⟨1, 3, 0, 0, 5#32⟩, ⟨3, 3, 3, 3, 0#32⟩]
theorem L0_ok : oks L0 := by decide
theorem L0_run : irun ((List.replicate 40 0#32).set 0 0#32) L0 = (List.replicate 40 0#32).set 3 10#32 := by decide +kernel
theorem known : WC T n_pianolalaw18_known [] h fun v h' => v = .bool true ∧ Kp h h' := by
  rw [w_pianolalaw18_known]
  simp (maxSteps := 10000000) (disch := first | assumption | ((try simp only [push_next, put_next, adv_next, List.length_cons, List.length_nil, List.length_map, List.length_set]); omega) | simp) [-List.reduceReplicate]
  generalize hH : (h.push (.cells false (List.replicate 40 (u32 0#32)))).push _ = H
  have g0 : H.get h.next = some (.cells false ((List.replicate 40 0#32).map u32)) := by rw [← hH, get_push_ne (by simp), get_push_self, List.map_replicate]
  have g1 : H.get (h.next + 1) = some (.cells false (encOp.all L0)) := by rw [← hH]; exact get_push_self (h := h.push _)
  have K : Kp h H := by rw [← hH]; exact ((Kp.refl h).push _).push _
  have s1 : Sees encOp H (some ⟨h.next + 1, 0, none⟩) L0 := ⟨fun hA => (by cases hA), fun A hA => by
    cases hA
    exact rdn_all g1 (by simp [L0, encOp]), fun A hA => (by cases hA; exact .inl rfl)⟩
  refine GC_intro (ir_run (R := List.replicate 40 0#32) (L := L0) (cp := 2) (q := fun v h3 => v = .bool true ∧ h3.get h.next = some (.cells false (((List.replicate 40 0#32).set 3 10#32).map u32)) ∧ Upd H h3 [h.next] [h.next]) (by simp) g0 s1 (fun A hA => by cases hA; simp) (by decide) fun h3 g3 u3 => ⟨by simp [L0_ok], by rw [g3, if_pos L0_ok, L0_run], u3⟩) fun v h3 ⟨hv, g3, u3⟩ => ?_
  subst hv
  have K3 : Kp h h3 := kp_upd K u3 (Nat.le_refl _)
  have g3' : h3.get h.next = some (.cells false [u32 0#32, u32 0#32, u32 0#32, u32 10#32, u32 0#32, u32 0#32, u32 0#32, u32 0#32, u32 0#32, u32 0#32, u32 0#32, u32 0#32, u32 0#32, u32 0#32, u32 0#32, u32 0#32, u32 0#32, u32 0#32, u32 0#32, u32 0#32, u32 0#32, u32 0#32, u32 0#32, u32 0#32, u32 0#32, u32 0#32, u32 0#32, u32 0#32, u32 0#32, u32 0#32, u32 0#32, u32 0#32, u32 0#32, u32 0#32, u32 0#32, u32 0#32, u32 0#32, u32 0#32, u32 0#32, u32 0#32]) := g3
  have irr := fun (h : Hp) (q : Value → Hp → Prop) => ir_right (h := h) (q := q) (o := ⟨0, 40, 0, 0, 0#32⟩)
  simp only [encOp] at irr
  simp (maxSteps := 10000000) (disch := first | assumption | ((try simp only [push_next, put_next, adv_next, List.length_cons, List.length_nil, List.length_map, List.length_set]); omega) | simp) [g3', GC_of (fun q => irr _ q), show ¬ (⟨0, 40, 0, 0, 0#32⟩ : IOp).ok by decide]
  generalize hH4 : (h3.push _).push _ = H4
  have K4 : Kp h H4 := by rw [← hH4]; exact (K3.push _).push _
  refine GC_intro (ir_writes (o := ⟨17, 0, 0, 0, 0#32⟩)) fun v h5 ⟨hz, K5⟩ => ?_
  obtain ⟨a5, c5, rfl, s5⟩ := hz
  have e5 : iwrites ⟨17, 0, 0, 0, 0#32⟩ = [32, 33] := by decide
  rw [e5] at s5 ⊢
  simp (maxSteps := 10000000) (disch := first | assumption | ((try simp only [push_next, put_next, adv_next, List.length_cons, List.length_nil, List.length_map, List.length_set]); omega) | simp)
  have same := fun q => same_int (q := q) (c := c5) (c' := 2) (s5.kp ((Kp.refl h5).push (.cells false [.int .i64 32, .int .i64 33]))) (sees_blk (l := [32, 33]) (ro := false) (h := h5.push (.cells false [.int .i64 32, .int .i64 33])) get_push_self) (by simp)
  simp at same
  simp (maxSteps := 10000000) (disch := first | assumption | ((try simp only [push_next, put_next, adv_next, List.length_cons, List.length_nil, List.length_map, List.length_set]); omega) | simp) [GC_of same, GC_of (fun q => run_nil)]
  exact (K4.trans K5).push _
end
end Go.Proofs.Ytjobkhnanbkcjaa.Cd

/- Shorter rows: the small functions. -/
set_option maxRecDepth 1000000
set_option maxHeartbeats 8000000
set_option linter.unusedSimpArgs false
set_option linter.unusedVariables false
namespace Go.Proofs.Ytjobkhnanbkcjaa.Cd
open Go Go.Dx
section
variable {h : Hp} {q : Value → Hp → Prop} {b c c' : Nat} {o p : IOp} {R : Regs} {a a' : Option Addr} {L : List IOp} {lv : Live}
theorem opt_right (hs : Sees encOp h a L) (hb : L.length < 2 ^ 63) : WC T n_opt_right [.slice a L.length c] h fun v h' => v = .bool (decide (oks L)) ∧ Kp h h' := by
  have irr := fun (h : Hp) (q : Value → Hp → Prop) (o : IOp) => ir_right (h := h) (q := q) (o := o)
  simp only [encOp] at irr
  rw [w_opt_right]
  simp (maxSteps := 10000000) (disch := first | assumption | ((try simp only [push_next, put_next, adv_next, List.length_cons, List.length_nil, List.length_map, List.length_set]); omega) | simp)
  refine G_loop (fun n e h' => ∃ us vs, n = vs.length ∧ L = us ++ vs ∧ (∀ o ∈ us, o.ok) ∧ Kp h h' ∧ e 5 = .slice a L.length c ∧ e 6 = .int .i64 L.length ∧ e 7 = .int .i64 us.length) ?_ L.length _ _ ⟨[], L, rfl, rfl, by simp, .refl _, by simp, by simp, by simp⟩
  rintro n ih e h' ⟨us, vs, rfl, hx, hu, K, e5, e6, e7⟩
  cases vs with
  | nil =>
    have hL : L = us := by simpa using hx
    have hl : (L.length : Int) = us.length := by rw [hL]
    have hok : oks L := by rw [hL]; exact hu
    simp (maxSteps := 10000000) (disch := first | assumption | ((try simp only [push_next, put_next, adv_next, List.length_cons, List.length_nil, List.length_map, List.length_set]); omega) | simp) [e5, e6, e7, hl, hok]
    exact K
  | cons o vs =>
    have hl : us.length < L.length := by rw [hx]; simp
    have hl' : (us.length : Int) < L.length := by omega
    obtain ⟨A, rfl, hr⟩ := Sees.mid (A := us) (x := o) (B := vs) (by rw [← hx]; exact hs.kp K)
    have hr' : h'.rdn A.block (A.off + us.length * 5) 5 = some [.int .i64 o.k, .int .i64 o.d, .int .i64 o.a, .int .i64 o.b, u32 o.imm] := hr
    have r1 : (h'.push (.cells false [.int .i64 o.k, .int .i64 o.d, .int .i64 o.a, .int .i64 o.b, u32 o.imm])).rdn h'.next 0 5 = some [.int .i64 o.k, .int .i64 o.d, .int .i64 o.a, .int .i64 o.b, u32 o.imm] := rdn_all get_push_self rfl
    by_cases ho : o.ok
    · simp (maxSteps := 10000000) (disch := first | assumption | ((try simp only [push_next, put_next, adv_next, List.length_cons, List.length_nil, List.length_map, List.length_set]); omega) | simp) [e5, e6, e7, hl', hr', r1, GC_of (fun q => irr _ q _), ho]
      refine ih vs.length (by simp) _ _ ⟨us ++ [o], vs, rfl, by simp [hx], fun x hx => ?_, ((K.push _).push _).push _, by simp [e5], by simp [e6], by simp⟩
      rcases List.mem_append.1 hx with h1 | h1
      · exact hu x h1
      · simp at h1; subst h1; exact ho
    · have hn : ¬ oks L := fun hh => ho (hh o (by rw [hx]; simp))
      simp (maxSteps := 10000000) (disch := first | assumption | ((try simp only [push_next, put_next, adv_next, List.length_cons, List.length_nil, List.length_map, List.length_set]); omega) | simp) [e5, e6, e7, hl', hr', r1, GC_of (fun q => irr _ q _), ho, hn]
      exact ((K.push _).push _).push _
theorem opt_sure : WC T n_opt_sure [.agg (encOp.enc o).toArray] h q ↔ q (.bool (isure o)) (h.push (.cells false (encOp.enc o))) := by
  rw [w_opt_sure]
  unfold isure
  by_cases h1 : o.k = 21
  · simp (maxSteps := 10000000) (disch := first | assumption | ((try simp only [push_next, put_next, adv_next, List.length_cons, List.length_nil, List.length_map, List.length_set]); omega) | simp) [encOp, h1]
  · by_cases h2 : o.k = 22
    · simp (maxSteps := 10000000) (disch := first | assumption | ((try simp only [push_next, put_next, adv_next, List.length_cons, List.length_nil, List.length_map, List.length_set]); omega) | simp) [encOp, h1, h2]
    · simp (maxSteps := 10000000) (disch := first | assumption | ((try simp only [push_next, put_next, adv_next, List.length_cons, List.length_nil, List.length_map, List.length_set]); omega) | simp) [encOp, h1, h2]
theorem dead_1 {n : Int} (hg : h.get b = some (.cells false (bls lv))) (h0 : 0 ≤ n) (h1 : n < 40) : WC T n_opt_Dead_1 [.int .i64 n, ptr b 0] h q ↔ q (.bool (lv n)) h := by
  have hb := bls_at lv h0 h1
  rw [w_opt_Dead_1]
  simp (maxSteps := 10000000) (disch := first | assumption | ((try simp only [push_next, put_next, adv_next, List.length_cons, List.length_nil, List.length_map, List.length_set]); omega) | simp) [hg, hb]
theorem any_live {l : List Int} (hs : Sees encZ h a l) (hl : ∀ n ∈ l, 0 ≤ n ∧ n < 40) (hb : l.length < 2 ^ 63) (hg : h.get b = some (.cells false (bls lv))) :
    WC T n_slices_ContainsFunc_int_int [.slice a l.length c, .func (.func n_opt_Dead_1) #[] #[ptr b 0]] h fun v h' => v = .bool (l.any lv) ∧ Kp h h' :=
  contains_int (fc := n_opt_Dead_1) (caps := #[ptr b 0]) (p := lv) hs hb fun x hx h1 K => (dead_1 (q := fun v h2 => v = .bool (lv x) ∧ Kp h1 h2) (by rw [K.get b (lt_of_get hg), hg]) (hl x hx).1 (hl x hx).2).2 ⟨rfl, .refl _⟩
theorem snoc_of {X : List IOp} (h : X ≠ []) : ∃ M y, X = M ++ [y] := ⟨X.dropLast, X.getLast h, (List.dropLast_concat_getLast h).symm⟩
/-- A row in its own block, turned. -/
theorem rev_blk {X : List IOp} {r : List Value} {sp : Option Nat} (hb : X.length < 2 ^ 60) (hg : h.get b = some (.cells false (encOp.all X ++ r))) : WC T n_slices_Reverse_ir_Op_ir_Op [.slice (some ⟨b, 0, sp⟩) X.length c] h fun _ h' => h'.get b = some (.cells false (encOp.all X.reverse ++ r)) ∧ Upd h h' [b] [b] := by
  rw [w_slices_Reverse_ir_Op_ir_Op]
  simp (maxSteps := 10000000) (disch := first | assumption | ((try simp only [push_next, put_next, adv_next, List.length_cons, List.length_nil, List.length_map, List.length_set]); omega) | simp)
  refine G_loop (fun n e h' => ∃ A M B, n = M.length ∧ X = A ++ M ++ B ∧ A.length = B.length ∧ h'.get b = some (.cells false (encOp.all (B.reverse ++ M ++ A.reverse) ++ r)) ∧ Upd h h' [b] [b] ∧ e 0 = .slice (some ⟨b, 0, sp⟩) X.length c ∧ e 2 = .int .i64 A.length ∧ e 3 = .int .i64 ((A.length : Int) + M.length - 1)) ?_ X.length _ _ ⟨[], X, [], rfl, by simp, rfl, by simpa using hg, .refl, by simp, by simp, by simp⟩
  rintro n ih e h' ⟨A, M, B, rfl, hX, hAB, hg', U, e0, e2, e3⟩
  have hlt := lt_of_get hg'
  have hXl : X.length = A.length + M.length + B.length := by rw [hX]; simp [Nat.add_assoc]
  match M with
  | [] =>
    simp at e3
    have t : ¬ ((A.length : Int) < A.length - 1) := by omega
    simp (maxSteps := 10000000) (disch := first | assumption | ((try simp only [push_next, put_next, adv_next, List.length_cons, List.length_nil, List.length_map, List.length_set]); omega) | simp) [e0, e2, e3, t]
    refine ⟨?_, U⟩
    rw [hg', hX]; simp
  | [x] =>
    have e3' : e 3 = .int .i64 A.length := by rw [e3]; simp
    simp (maxSteps := 10000000) (disch := first | assumption | ((try simp only [push_next, put_next, adv_next, List.length_cons, List.length_nil, List.length_map, List.length_set]); omega) | simp) [e0, e2, e3']
    refine ⟨?_, U⟩
    rw [hg', hX]; simp
  | x :: y :: M' =>
    obtain ⟨M2, z, hM2⟩ := snoc_of (X := y :: M') (by simp)
    rw [hM2] at hX hg' e3 hXl ih
    simp only [List.length_cons, List.length_append, List.length_nil] at e3 hXl
    have e3' : e 3 = .int .i64 ((A.length + M2.length + 1 : Nat) : Int) := by rw [e3]; congr 1; omega
    have t : (A.length : Int) < ((A.length + M2.length + 1 : Nat) : Int) := by omega
    have rz : h'.rdn b ((A.length + M2.length + 1) * 5) 5 = some (encOp.enc z) := by
      have := rd_mid (E := encOp) (ro := false) (r := r) (A := B.reverse ++ x :: M2) (x := z) (B := A.reverse) (h := h') (b := b) (by rw [hg']; simp)
      have e : (B.reverse ++ x :: M2).length = A.length + M2.length + 1 := by simp; omega
      rw [e] at this
      exact this
    have rx : h'.rdn b (A.length * 5) 5 = some (encOp.enc x) := by
      have := rd_mid (E := encOp) (ro := false) (r := r) (A := B.reverse) (x := x) (B := M2 ++ z :: A.reverse) (h := h') (b := b) (by rw [hg']; simp)
      have e : B.reverse.length = A.length := by simp; omega
      rw [e] at this
      exact this
    have wx : h'.wr b (A.length * 5) (encOp.enc z) = some (h'.put b (some (.cells false (encOp.all (B.reverse ++ z :: (M2 ++ z :: A.reverse)) ++ r)))) := by
      have := wr_mid (E := encOp) (r := r) (A := B.reverse) (x := x) (y := z) (B := M2 ++ z :: A.reverse) (h := h') (b := b) (by rw [hg']; simp)
      have e : B.reverse.length = A.length := by simp; omega
      rw [e] at this
      exact this
    have wz : (h'.put b (some (.cells false (encOp.all (B.reverse ++ z :: (M2 ++ z :: A.reverse)) ++ r)))).wr b ((A.length + M2.length + 1) * 5) (encOp.enc x) = some (h'.put b (some (.cells false (encOp.all ((B.reverse ++ z :: M2) ++ x :: A.reverse) ++ r)))) := by
      have := wr_mid (E := encOp) (r := r) (A := B.reverse ++ z :: M2) (x := z) (y := x) (B := A.reverse) (h := h'.put b (some (.cells false (encOp.all (B.reverse ++ z :: (M2 ++ z :: A.reverse)) ++ r)))) (b := b) (by rw [get_put_self hlt]; simp)
      have e : (B.reverse ++ z :: M2).length = A.length + M2.length + 1 := by simp; omega
      rw [e, put_put] at this
      exact this
    generalize encOp.all (B.reverse ++ z :: (M2 ++ z :: A.reverse)) ++ r = C1 at wx wz
    generalize hC2 : encOp.all ((B.reverse ++ z :: M2) ++ x :: A.reverse) ++ r = C2 at wz
    have hA1 : A.length < X.length := by omega
    have hA2 : A.length + M2.length + 1 < X.length := by omega
    have hA1' : (A.length : Int) < X.length := by omega
    have hA2' : ((A.length + M2.length + 1 : Nat) : Int) < X.length := by omega
    generalize hK : A.length + M2.length + 1 = K at e3' t rz wz hA2 hA2'
    simp (maxSteps := 10000000) (disch := first | assumption | ((try simp only [push_next, put_next, adv_next, List.length_cons, List.length_nil, List.length_map, List.length_set]); omega) | simp) [e0, e2, e3', t, rz, rx, wx, wz, hA1, hA2, hA1', hA2', encOp.len, -Hp.wr, -over]
    refine ih M2.length (by simp only [List.length_cons, List.length_append, List.length_nil]; omega) _ _ ⟨A ++ [x], M2, z :: B, rfl, by rw [hX]; simp, by simp [hAB], ?_, U.put1, by simp [e0], by simp, ?_⟩
    · rw [get_put_self hlt, ← hC2]; simp
    · simp; omega
end
end Go.Proofs.Ytjobkhnanbkcjaa.Cd

/- Shorter rows: without what nobody asks. -/
set_option maxRecDepth 1000000
set_option maxHeartbeats 8000000
set_option linter.unusedSimpArgs false
set_option linter.unusedVariables false
namespace Go.Proofs.Ytjobkhnanbkcjaa.Cd
open Go Go.Dx
section
variable {h : Hp} {q : Value → Hp → Prop} {b c c' : Nat} {o p : IOp} {R : Regs} {a a' : Option Addr} {L : List IOp} {lv : Live}
theorem rev_0 : WC T n_slices_Reverse_ir_Op_ir_Op [.slice a 0 c] h fun _ h' => h' = h := by
  rw [w_slices_Reverse_ir_Op_ir_Op]
  simp (maxSteps := 10000000) (disch := first | assumption | ((try simp only [push_next, put_next, adv_next, List.length_cons, List.length_nil, List.length_map, List.length_set]); omega) | simp) [G_round]
theorem rev_own {v : Value} {X : List IOp} {fp : List Nat} (O : Own encOp h v X fp) (hb : X.length < 2 ^ 60) : WC T n_slices_Reverse_ir_Op_ir_Op [v] h fun _ h' => Own encOp h' v X.reverse fp ∧ Upd h h' fp fp := by
  cases O with
  | nul =>
    refine rev_0.mono fun v h' hh => ?_
    subst hh
    exact ⟨.nul, .refl⟩
  | emp hg =>
    refine rev_0.mono fun v h' hh => ?_
    subst hh
    exact ⟨.emp hg, .refl⟩
  | blk hg hn hc h0 hr =>
    subst hn
    refine (rev_blk hb hg).mono fun v h' ⟨hh, hu⟩ => ?_
    exact ⟨.blk hh (by simp) hc h0 hr, hu⟩
def OwnNew (h h' : Hp) (v : Value) (X : List IOp) : Prop := ∃ fp, Own encOp h' v X fp ∧ ∀ b ∈ fp, h.next ≤ b
def livej (j : Nat) : Live := fun c => decide (0 ≤ c ∧ c < (j : Int))
def lw1 (lv : Live) (o : IOp) (ws : List Int) : Live := fun c => if c ∈ ws then lv c && !isure o else lv c
def lw2 (lv : Live) (o : IOp) (xs : List Int) : Live := fun c => if c ∈ xs then true else if c ∈ iwrites o then lv c && !isure o else lv c
theorem lw1_nil (lv : Live) (o : IOp) : lw1 lv o [] = lv := by funext c; simp [lw1]
theorem lw2_nil (lv : Live) (o : IOp) : lw2 lv o [] = lw1 lv o (iwrites o) := by funext c; simp [lw1, lw2]
theorem lw2_all (lv : Live) (o : IOp) : lw2 lv o (ireads o) = lkeep o lv := rfl
theorem lw1_at (lv : Live) (o : IOp) (ws : List Int) (z : Int) : lw1 lv o ws z = if z ∈ ws then lv z && !isure o else lv z := rfl
theorem lw1_step (lv : Live) (o : IOp) (ws : List Int) (z : Int) : (fun c => if c = z then lv z && !isure o else lw1 lv o ws c) = lw1 lv o (ws ++ [z]) := by
  funext c
  simp only [lw1]
  by_cases hc : c = z
  · subst hc; simp
  · simp [hc]
theorem lw2_step (lv : Live) (o : IOp) (ws : List Int) (z : Int) : (fun c => if c = z then true else lw2 lv o ws c) = lw2 lv o (ws ++ [z]) := by
  funext c
  simp only [lw2]
  by_cases hc : c = z
  · subst hc; simp
  · simp [hc]
theorem opt_dead (hs : Sees encOp h a L) (hb : L.length < 2 ^ 40) : WC T n_opt_Dead [.slice a L.length c] h fun v h' => OwnNew h h' v (if oks L then idead L else []) ∧ Kp h h' := by
  rw [w_opt_Dead]
  simp (maxSteps := 10000000) (disch := first | assumption | ((try simp only [push_next, put_next, adv_next, List.length_cons, List.length_nil, List.length_map, List.length_set]); omega) | simp) [-List.reduceReplicate]
  refine GC_intro (opt_right hs (by omega)) fun v h1 ⟨hv, K1⟩ => ?_
  subst hv
  by_cases hok : oks L
  case neg =>
    simp (maxSteps := 10000000) (disch := first | assumption | ((try simp only [push_next, put_next, adv_next, List.length_cons, List.length_nil, List.length_map, List.length_set]); omega) | simp) [-List.reduceReplicate, hok]
    exact ⟨⟨[], .nul, by simp⟩, K1⟩
  rw [if_pos hok]
  simp (maxSteps := 10000000) (disch := first | assumption | ((try simp only [push_next, put_next, adv_next, List.length_cons, List.length_nil, List.length_map, List.length_set]); omega) | simp) [-List.reduceReplicate, hok]
  have n1 := K1.le
  rw [← bls_false]
  refine G_loop (fun n e h' => ∃ j : Nat, n = 34 - j ∧ j ≤ 34 ∧ Kp h h' ∧ h'.get h1.next = some (.cells false (bls (livej j))) ∧ e 0 = .slice a L.length c ∧ e 3 = ptr h1.next 0 ∧ e 16 = .int .i64 j) ?_ 34 _ _ ⟨0, by simp, by simp, K1.push _, ?_, by simp, by simp, by simp⟩
  case refine_2 =>
    rw [get_push_self, bls_congr (a := fun _ => false) (b := livej 0) fun c h0 h1 => by simp only [livej]; symm; rw [decide_eq_false_iff_not]; omega]
  rintro n ih e h' ⟨j, rfl, hj, K, g, e0, e3, e16⟩
  have lt := lt_of_get g
  by_cases h34 : j = 34
  case neg =>
    have hj2 : (j : Int) < 34 := by omega
    have hj3 : (j : Int) ≤ 39 := by omega
    have o1 := fun (l : List Value) n v => over_set (l := l) (i := n) (v := v)
    have hj4 : j ≤ 39 := by omega
    simp (maxSteps := 10000000) (disch := first | assumption | ((try simp only [push_next, put_next, adv_next, List.length_cons, List.length_nil, List.length_map, List.length_set]); omega) | simp) [e0, e3, e16, hj2, hj3, hj4, g, -over, o1]
    refine ih (34 - (j + 1)) (by omega) _ _ ⟨j + 1, rfl, by omega, K.put n1 _, ?_, by simp [e0], by simp [e3], by simp⟩
    rw [get_put_self lt]
    have := bls_set (livej j) (i := j) true (by omega) (by omega)
    simp only [Int.toNat_natCast] at this
    rw [this]
    congr 2
    refine bls_congr fun c h0 h1 => ?_
    by_cases hc : c = j
    · subst hc; simp [livej]; omega
    · simp only [hc, if_false, livej]; rw [decide_eq_decide]; omega
  subst h34
  clear ih
  simp (maxSteps := 10000000) (disch := first | assumption | ((try simp only [push_next, put_next, adv_next, List.length_cons, List.length_nil, List.length_map, List.length_set]); omega) | simp) [e0, e3, e16]
  refine G_loop (fun n e h' => ∃ us vs fp, n = us.length ∧ L = us ++ vs ∧ Own encOp h' (e 5) (drun vs).2.reverse fp ∧ (∀ b ∈ fp, h1.next < b) ∧ Kp h h' ∧ h'.get h1.next = some (.cells false (bls (drun vs).1)) ∧ e 0 = .slice a L.length c ∧ e 3 = ptr h1.next 0 ∧ e 6 = .int .i64 ((us.length : Int) - 1)) ?_ L.length _ _ ⟨L, [], [], rfl, by simp, by simp; exact .nul, by simp, K, g, by simp [e0], by simp [e3], by simp⟩
  clear K g e0 e3 e16 hj lt
  rintro n ih e h' ⟨us, vs, fp, rfl, hx, O, hfp, K, g, e0, e3, e6⟩
  have lt := lt_of_get g
  have hDl : (drun vs).2.length ≤ vs.length := idead_len vs
  have hxl : L.length = us.length + vs.length := by rw [hx]; simp
  rcases List.eq_nil_or_concat us with rfl | ⟨us, o, rfl⟩
  · simp at e6
    have hLv : L = vs := by simpa using hx
    simp (maxSteps := 10000000) (disch := first | assumption | ((try simp only [push_next, put_next, adv_next, List.length_cons, List.length_nil, List.length_map, List.length_set]); omega) | simp) [e0, e3, e6]
    refine GC_intro (rev_own O (by simp; omega)) fun v h2 ⟨O2, U2⟩ => ?_
    simp (maxSteps := 10000000) (disch := first | assumption | ((try simp only [push_next, put_next, adv_next, List.length_cons, List.length_nil, List.length_map, List.length_set]); omega) | simp)
    refine ⟨⟨fp, ?_, fun b hb => by have := hfp b hb; omega⟩, U2.kp' K (fun b hb => by have := hfp b hb; omega)⟩
    simpa [hLv, idead] using O2
  rw [List.concat_eq_append] at hx e6 hxl ih
  have hlen : us.length < L.length := by rw [hx]; simp
  have hlen' : (us.length : Int) < L.length := by omega
  have e6' : e 6 = .int .i64 us.length := by rw [e6]; simp
  have t0 : (0 : Int) ≤ us.length := by omega
  have hoo : o.ok := hok o (by rw [hx]; simp)
  have hx' : L = us ++ o :: vs := by rw [hx]; simp
  obtain ⟨A, rfl, hr⟩ := Sees.mid (A := us) (x := o) (B := vs) (by rw [← hx']; exact hs.kp K)
  have hr' : h'.rdn A.block (A.off + us.length * 5) 5 = some [.int .i64 o.k, .int .i64 o.d, .int .i64 o.a, .int .i64 o.b, u32 o.imm] := hr
  simp (maxSteps := 10000000) (disch := first | assumption | ((try simp only [push_next, put_next, adv_next, List.length_cons, List.length_nil, List.length_map, List.length_set]); omega) | simp) [e0, e3, e6', t0, hlen, hlen', hr']
  generalize hM : h'.push (.cells false [.int .i64 o.k, .int .i64 o.d, .int .i64 o.a, .int .i64 o.b, u32 o.imm]) = M
  have KM : Kp h' M := by rw [← hM]; exact (Kp.refl h').push _
  have gM : M.get h'.next = some (.cells false (encOp.enc o)) := by rw [← hM, get_push_self]; rfl
  have rM := rdn_all (n := 5) gM rfl
  simp only [encOp] at rM
  simp (maxSteps := 10000000) (disch := first | assumption | ((try simp only [push_next, put_next, adv_next, List.length_cons, List.length_nil, List.length_map, List.length_set]); omega) | simp) [rM]
  refine GC_intro (ir_writes (o := o)) fun v h2 ⟨hz, K2⟩ => ?_
  obtain ⟨aw, cw, rfl, sw⟩ := hz
  have K'2 : Kp h' h2 := KM.trans K2
  have g2 := (K'2.get _ lt).trans g
  have gO2 := (K2.get _ (lt_of_get gM)).trans gM
  have hwb : ∀ n ∈ iwrites o, 0 ≤ n ∧ n < 40 := fun n hn => ⟨by have := iwrites_ne hn; omega, (iwrites_ne hn).2⟩
  simp (maxSteps := 10000000) (disch := first | assumption | ((try simp only [push_next, put_next, adv_next, List.length_cons, List.length_nil, List.length_map, List.length_set]); omega) | simp) [e3]
  refine GC_intro (any_live sw hwb (iwrites_len o) g2) fun v h3 ⟨hv, K3⟩ => ?_
  subst hv
  have K'3 : Kp h' h3 := K'2.trans K3
  have g3 := (K3.get _ (lt_of_get g2)).trans g2
  have gO3 := (K3.get _ (lt_of_get gO2)).trans gO2
  have O3 := O.kp K'3
  by_cases hl : lany o (drun vs).1 = true
  case neg =>
    have hl' : (iwrites o).any (drun vs).1 = false := by simpa [lany] using hl
    have hd : drun (o :: vs) = drun vs := by rw [drun_cons]; unfold dstep; rw [if_neg hl]
    simp (maxSteps := 10000000) (disch := first | assumption | ((try simp only [push_next, put_next, adv_next, List.length_cons, List.length_nil, List.length_map, List.length_set]); omega) | simp) [hl', e6']
    refine ih us.length (by simp) _ _ ⟨us, o :: vs, fp, rfl, hx', by rw [hd]; simpa using O3, hfp, K.trans K'3, by rw [hd]; exact g3, by simp [e0], by simp [e3], by simp⟩
  have hl' : (iwrites o).any (drun vs).1 = true := hl
  have hd : drun (o :: vs) = (lkeep o (drun vs).1, o :: (drun vs).2) := by rw [drun_cons]; unfold dstep; rw [if_pos hl]
  have o1 := fun (l : List Value) n v => over_set (l := l) (i := n) (v := v)
  have sw3 := sw.kp K3
  simp (maxSteps := 10000000) (disch := first | assumption | ((try simp only [push_next, put_next, adv_next, List.length_cons, List.length_nil, List.length_map, List.length_set]); omega) | simp) [hl']
  have lb1 : h1.next ≠ h'.next := by omega
  refine G_loop (fun n e' h4 => ∃ ws zs, n = zs.length ∧ iwrites o = ws ++ zs ∧ Upd h3 h4 [h1.next] [h1.next] ∧ h4.get h1.next = some (.cells false (bls (lw1 (drun vs).1 o ws))) ∧ e' 0 = e 0 ∧ e' 3 = ptr h1.next 0 ∧ e' 5 = e 5 ∧ e' 6 = .int .i64 us.length ∧ e' 7 = ptr h'.next 0 ∧ e' 39 = .slice aw (iwrites o).length cw ∧ e' 40 = .int .i64 (iwrites o).length ∧ e' 41 = .int .i64 ws.length) ?_ (iwrites o).length _ _ ⟨[], iwrites o, rfl, rfl, .refl, by rw [lw1_nil]; exact g3, by simp, by simp [e3], by simp, by simp [e6'], by simp, by simp, by simp, by simp⟩
  have hwl := iwrites_len o
  rintro n ih2 e' h4 ⟨ws, zs, rfl, hw, U4, g4, f0, f3, f5, f6, f7, f39, f40, f41⟩
  have lt4 := lt_of_get g4
  have gO4 : h4.get h'.next = some (.cells false (encOp.enc o)) := by rw [U4.get _ (lt_of_get gO3) (by simpa using lb1.symm), gO3]
  cases zs with
  | cons z zs =>
    have hzm : z ∈ iwrites o := by rw [hw]; simp
    obtain ⟨z0, z1⟩ := hwb z hzm
    have z2 : z ≤ 39 := by omega
    have hll : ws.length < (iwrites o).length := by rw [hw]; simp
    have hll' : (ws.length : Int) < (iwrites o).length := by omega
    obtain ⟨B, ro, C, rfl, k1, k2⟩ := Sees.cell (f := fun n => Value.int .i64 n) (fun _ => rfl) rfl (us := ws) (x := z) (vs := zs) (by rw [← hw]; exact sw3)
    have hB : B.block ≠ h1.next := fun hh => by
      rw [hh, g3] at k1
      cases k1
      have : B.off + ws.length < 40 := by
        apply Classical.byContradiction
        intro hge
        rw [List.getElem?_eq_none (by simp; omega)] at k2
        cases k2
      rw [bls_nat _ this] at k2
      cases k2
    have k1' : h4.get B.block = some (.cells ro C) := by rw [U4.get _ (lt_of_get k1) (by simpa using hB), k1]
    have bz := bls_at (lw1 (drun vs).1 o ws) z0 z1
    have rO4 := rdn_all (n := 5) gO4 rfl
    simp only [encOp] at rO4
    have sure' := fun (h : Hp) (q : Value → Hp → Prop) => opt_sure (h := h) (q := q) (o := o)
    simp only [encOp] at sure'
    have hset := bls_set (lw1 (drun vs).1 o ws) (i := z) ((drun vs).1 z && !isure o) z0 z1
    have hcon := lw1_step (drun vs).1 o ws z
    have lt4' : h1.next < (h4.push (Ob.cells false [.int .i64 o.k, .int .i64 o.d, .int .i64 o.a, .int .i64 o.b, u32 o.imm])).next := by simp; omega
    have hlwz := lw1_at (drun vs).1 o ws z
    rw [hcon] at hset
    by_cases hz : lw1 (drun vs).1 o ws z = true
    · have hval : ((drun vs).1 z && !isure o) = !isure o := by
        rw [hlwz] at hz
        split at hz
        · simp at hz; simp [hz]
        · simp [hz]
      rw [hval] at hset
      simp only [hz] at bz
      simp (maxSteps := 10000000) (disch := first | assumption | ((try simp only [push_next, put_next, adv_next, List.length_cons, List.length_nil, List.length_map, List.length_set]); omega) | simp) [f3, f7, f39, f40, f41, hll', k1', k2, g4, bz, z2, rO4, GC_of (fun q => sure' _ q), -over, o1]
      refine ih2 zs.length (by simp) _ _ ⟨ws ++ [z], zs, rfl, by simp [hw], ?_, ?_, by simp [f0], by simp [f3], by simp [f5], by simp [f6], by simp [f7], by simp [f39], by simp [f40], by simp⟩
      · exact (U4.one ((Kp.refl h4).push _)).put1
      · rw [get_put_self lt4', hset]
    · have hz' : lw1 (drun vs).1 o ws z = false := by simpa using hz
      have hval : ((drun vs).1 z && !isure o) = false := by
        rw [hlwz] at hz'
        split at hz'
        · exact hz'
        · simp [hz']
      rw [hval] at hset
      simp only [hz'] at bz
      simp (maxSteps := 10000000) (disch := first | assumption | ((try simp only [push_next, put_next, adv_next, List.length_cons, List.length_nil, List.length_map, List.length_set]); omega) | simp) [f3, f7, f39, f40, f41, hll', k1', k2, g4, bz, z2, rO4, GC_of (fun q => sure' _ q), -over, o1]
      refine ih2 zs.length (by simp) _ _ ⟨ws ++ [z], zs, rfl, by simp [hw], U4.put1, ?_, by simp [f0], by simp [f3], by simp [f5], by simp [f6], by simp [f7], by simp [f39], by simp [f40], by simp⟩
      rw [get_put_self lt4, hset]
  | nil =>
    have hws : iwrites o = ws := by simpa using hw
    have hll : ((iwrites o).length : Int) = ws.length := by rw [hws]
    clear ih2
    rw [← hws] at g4
    have rO4 := rdn_all (n := 5) gO4 rfl
    simp only [encOp] at rO4
    simp (maxSteps := 10000000) (disch := first | assumption | ((try simp only [push_next, put_next, adv_next, List.length_cons, List.length_nil, List.length_map, List.length_set]); omega) | simp) [f7, f39, f40, f41, hll, rO4]
    refine GC_intro (ir_reads (o := o)) fun v h5 ⟨hz5, K5⟩ => ?_
    obtain ⟨ar, cr, rfl, sr⟩ := hz5
    have g5 := (K5.get _ lt4).trans g4
    have gO5 := (K5.get _ (lt_of_get gO4)).trans gO4
    have hrl := ireads_len o
    simp (maxSteps := 10000000) (disch := first | assumption | ((try simp only [push_next, put_next, adv_next, List.length_cons, List.length_nil, List.length_map, List.length_set]); omega) | simp) []
    refine G_loop (fun n e2 h6 => ∃ ws zs, n = zs.length ∧ ireads o = ws ++ zs ∧ Upd h5 h6 [h1.next] [h1.next] ∧ h6.get h1.next = some (.cells false (bls (lw2 (drun vs).1 o ws))) ∧ e2 0 = e 0 ∧ e2 3 = ptr h1.next 0 ∧ e2 5 = e 5 ∧ e2 6 = .int .i64 us.length ∧ e2 7 = ptr h'.next 0 ∧ e2 57 = .slice ar (ireads o).length cr ∧ e2 58 = .int .i64 (ireads o).length ∧ e2 59 = .int .i64 ws.length) ?_ (ireads o).length _ _ ⟨[], ireads o, rfl, rfl, .refl, by rw [lw2_nil]; exact g5, by simp [f0], by simp [f3], by simp [f5], by simp [f6], by simp [f7], by simp, by simp, by simp⟩
    rintro n ih3 e2 h6 ⟨xs, zs, rfl, hw6, U6, g6, d0, d3, d5, d6, d7, d57, d58, d59⟩
    have lt6 := lt_of_get g6
    cases zs with
    | cons z zs =>
      have hzm : z ∈ ireads o := by rw [hw6]; simp
      obtain ⟨z0, z1⟩ := ireads_in hzm
      have z2 : z ≤ 39 := by omega
      have hll6 : (xs.length : Int) < (ireads o).length := by rw [hw6]; simp; omega
      obtain ⟨B, ro, C, rfl, k1, k2⟩ := Sees.cell (f := fun n => Value.int .i64 n) (fun _ => rfl) rfl (us := xs) (x := z) (vs := zs) (by rw [← hw6]; exact sr)
      have hB : B.block ≠ h1.next := fun hh => by
        rw [hh, g5] at k1
        cases k1
        have : B.off + xs.length < 40 := by
          apply Classical.byContradiction
          intro hge
          rw [List.getElem?_eq_none (by simp; omega)] at k2
          cases k2
        rw [bls_nat _ this] at k2
        cases k2
      have k1' : h6.get B.block = some (.cells ro C) := by rw [U6.get _ (lt_of_get k1) (by simpa using hB), k1]
      have hset := bls_set (lw2 (drun vs).1 o xs) (i := z) true z0 z1
      rw [lw2_step] at hset
      simp (maxSteps := 10000000) (disch := first | assumption | ((try simp only [push_next, put_next, adv_next, List.length_cons, List.length_nil, List.length_map, List.length_set]); omega) | simp) [d3, d57, d58, d59, hll6, k1', k2, g6, z2, -over, o1]
      refine ih3 zs.length (by simp) _ _ ⟨xs ++ [z], zs, rfl, by simp [hw6], U6.put1, ?_, by simp [d0], by simp [d3], by simp [d5], by simp [d6], by simp [d7], by simp [d57], by simp [d58], by simp⟩
      rw [get_put_self lt6, hset]
    | nil =>
      have hxs : ireads o = xs := by simpa using hw6
      have hll6 : ((ireads o).length : Int) = xs.length := by rw [hxs]
      rw [← hxs] at g6
      have gO6 : h6.get h'.next = some (.cells false (encOp.enc o)) := by rw [U6.get _ (lt_of_get gO5) (by simpa using lb1.symm), gO5]
      have rO6 := rdn_all (n := 5) gO6 rfl
      simp only [encOp] at rO6
      have fpl : ∀ b ∈ fp, b < h'.next := fun b hb => O.live b hb
      have O6 : Own encOp h6 (e 5) (drun vs).2.reverse fp := O.keep fun b hb => by
        have h1 := fpl b hb
        have h2 := hfp b hb
        have l3 := K'3.le
        have l4 := U4.le
        have l5 := K5.le
        rw [U6.get _ (by omega) (by simp; omega), K5.get _ (by omega), U4.get _ (by omega) (by simp; omega), K'3.get _ h1]
      have K6 : Kp h h6 := by
        have := (U4.trans ((K5.upd _).trans U6)).kp' (K.trans K'3) (by simp; exact n1)
        exact this
      simp (maxSteps := 10000000) (disch := first | assumption | ((try simp only [push_next, put_next, adv_next, List.length_cons, List.length_nil, List.length_map, List.length_set]); omega) | simp) [d5, d7, d57, d58, d59, hll6, rO6]
      refine GV_app1 (E := encOp) (bytes := 40) (x := o) O6 (by simp; omega) (by simp; omega) fun v' h7 fp' O7 U7 => ?_
      simp (maxSteps := 10000000) (disch := first | assumption | ((try simp only [push_next, put_next, adv_next, List.length_cons, List.length_nil, List.length_map, List.length_set]); omega) | simp) [d6]
      refine ih us.length (by simp) _ _ ⟨us, o :: vs, fp', rfl, hx', ?_, fun b hb => ?_, U7.kp' K6 (fun b hb => by have := hfp b hb; omega), ?_, by simp [d0, e0], by simp [d3], by simp⟩
      · rw [hd]; simpa using O7
      · rcases U7.sub b hb with h8 | h8
        · exact hfp b h8
        · omega
      · rw [U7.get _ lt6 (fun hh => by have := hfp _ hh; omega), g6, hd, lw2_all]
end
end Go.Proofs.Ytjobkhnanbkcjaa.Cd

/- Shorter rows: what is known. -/
set_option maxRecDepth 1000000
set_option maxHeartbeats 8000000
set_option linter.unusedSimpArgs false
set_option linter.unusedVariables false
namespace Go.Proofs.Ytjobkhnanbkcjaa.Cd
open Go Go.Dx
section
variable {h : Hp} {q : Value → Hp → Prop} {b c c' : Nat} {o p : IOp} {R : Regs} {a a' : Option Addr} {L : List IOp} {f : Facts}
def fcells (f : Facts) : List Value := bls f.is ++ f.v.map u32
theorem fcells_is (f : Facts) {z : Int} (h0 : 0 ≤ z) (h1 : z < 40) : (fcells f)[z.toNat]? = some (.bool (f.is z)) := by
  unfold fcells
  rw [List.getElem?_append_left (by simp; omega), bls_at _ h0 h1]
theorem fcells_v (f : Facts) (hv : f.v.length = 40) {z : Int} (h0 : 0 ≤ z) (h1 : z < 40) : (fcells f)[40 + z.toNat]? = some (u32 (rg f.v z)) := by
  unfold fcells
  rw [List.getElem?_append_right (by simp), bls_length, Nat.add_sub_cancel_left, List.getElem?_map, rg_at h0 (by omega)]; rfl
theorem fcells_len (f : Facts) (hv : f.v.length = 40) : (fcells f).length = 80 := by simp [fcells, hv]
theorem fcells_set (f : Facts) {z : Int} (t : Bool) (h0 : 0 ≤ z) (h1 : z < 40) : (fcells f).set z.toNat (.bool t) = fcells ⟨fun c => if c = z then t else f.is c, f.v⟩ := by
  unfold fcells
  rw [List.set_append_left _ _ (by simp; omega), bls_set _ _ h0 h1]
theorem fcells_congr {f g : Facts} (hi : ∀ c, 0 ≤ c → c < 40 → f.is c = g.is c) (hv : f.v = g.v) : fcells f = fcells g := by
  unfold fcells
  rw [bls_congr hi, hv]
theorem opt_knows {l : List Int} (hg : h.get b = some (.cells false (fcells f))) (hv : f.v.length = 40) (hs : Sees encZ h a l) (hl : ∀ n ∈ l, 0 ≤ n ∧ n < 40) (hb : l.length < 2 ^ 63) : WC T n_opt_facts_knows [ptr b 0, .slice a l.length c] h q ↔ q (.bool (knows f l)) h := by
  refine WC_iff ?_ q
  rw [w_opt_facts_knows]
  simp (maxSteps := 10000000) (disch := first | assumption | ((try simp only [push_next, put_next, adv_next, List.length_cons, List.length_nil, List.length_map, List.length_set]); omega) | simp)
  refine G_loop (fun n e h' => ∃ us vs, n = vs.length ∧ l = us ++ vs ∧ (∀ z ∈ us, f.is z = true) ∧ h' = h ∧ e 0 = ptr b 0 ∧ e 7 = .slice a l.length c ∧ e 8 = .int .i64 l.length ∧ e 9 = .int .i64 us.length) ?_ l.length _ _ ⟨[], l, rfl, rfl, by simp, rfl, by simp, by simp, by simp, by simp⟩
  rintro n ih e h' ⟨us, vs, rfl, hx, hu, rfl, e0, e7, e8, e9⟩
  cases vs with
  | nil =>
    have hL : l = us := by simpa using hx
    have hll : (l.length : Int) = us.length := by rw [hL]
    have hk : knows f l = true := by rw [hL, knows_iff]; exact hu
    simp (maxSteps := 10000000) (disch := first | assumption | ((try simp only [push_next, put_next, adv_next, List.length_cons, List.length_nil, List.length_map, List.length_set]); omega) | simp) [e0, e7, e8, e9, hll, hk]
  | cons z vs =>
    obtain ⟨z0, z1⟩ := hl z (by rw [hx]; simp)
    have hll : (us.length : Int) < l.length := by rw [hx]; simp; omega
    obtain ⟨B, ro, C, rfl, k1, k2⟩ := Sees.cell (f := fun n => Value.int .i64 n) (fun _ => rfl) rfl (us := us) (x := z) (vs := vs) (by rw [← hx]; exact hs)
    have fz := fcells_is f z0 z1
    by_cases hz : f.is z = true
    · simp only [hz] at fz
      simp (maxSteps := 10000000) (disch := first | assumption | ((try simp only [push_next, put_next, adv_next, List.length_cons, List.length_nil, List.length_map, List.length_set]); omega) | simp) [e0, e7, e8, e9, hll, k1, k2, hg, fz]
      refine ih vs.length (by simp) _ _ ⟨us ++ [z], vs, rfl, by simp [hx], fun y hy => ?_, rfl, by simp [e0], by simp [e7], by simp [e8], by simp⟩
      rcases List.mem_append.1 hy with h1 | h1
      · exact hu y h1
      · simp at h1; subst h1; exact hz
    · have hz' : f.is z = false := by simpa using hz
      simp only [hz'] at fz
      have hk : knows f l = false := by
        rw [Bool.eq_false_iff]
        intro hh
        exact hz (knows_iff.1 hh z (by rw [hx]; simp))
      simp (maxSteps := 10000000) (disch := first | assumption | ((try simp only [push_next, put_next, adv_next, List.length_cons, List.length_nil, List.length_map, List.length_set]); omega) | simp) [e0, e7, e8, e9, hll, k1, k2, hg, fz, hk]
theorem sees_o1 {ro : Bool} (hg : h.get b = some (.cells ro (encOp.enc o))) : Sees encOp h (some ⟨b, 0, none⟩) [o] := ⟨fun hA => (by cases hA), fun A hA => by
  cases hA
  exact rdn_all hg (by simp [encOp]), fun A hA => (by cases hA; exact .inl rfl)⟩
theorem done_loop {Q : Ex → Env → Hp → Prop} {k : List Fr} {e : Env} {w : Regs} {aw : Option Addr} {cw : Nat} {kn : Bool} (hwl : w.length = 40) (sw : Sees encZ h aw (iwrites o)) (g3 : h.get b = some (.cells false (fcells ⟨f.is, w⟩)))
    (e0 : e 0 = ptr b 0) (e4 : e 4 = .bool kn) (e19 : e 19 = .slice aw (iwrites o).length cw) (e20 : e 20 = .int .i64 (iwrites o).length) (e21 : e 21 = .int .i64 0)
    (hout : ∀ e' h4, h4.get b = some (.cells false (fcells ⟨fun c => if c ∈ iwrites o then kn else f.is c, w⟩)) → Upd h h4 [b] [b] → GR T Q k (.x 0) e' h4) : G T Q (.loop c2_opt_facts_done) k e h := by
  have hwb : ∀ n ∈ iwrites o, 0 ≤ n ∧ n < 40 := fun n hn => ⟨by have := iwrites_ne hn; omega, (iwrites_ne hn).2⟩
  have hll0 := iwrites_len o
  refine G_loop (fun n e' h4 => ∃ us vs, n = vs.length ∧ iwrites o = us ++ vs ∧ Upd h h4 [b] [b] ∧ h4.get b = some (.cells false (fcells ⟨fun c => if c ∈ us then kn else f.is c, w⟩)) ∧ e' 0 = ptr b 0 ∧ e' 4 = .bool kn ∧ e' 19 = .slice aw (iwrites o).length cw ∧ e' 20 = .int .i64 (iwrites o).length ∧ e' 21 = .int .i64 us.length) ?_ (iwrites o).length _ _ ⟨[], iwrites o, rfl, rfl, .refl, by simpa using g3, e0, e4, e19, e20, e21⟩
  rintro n ih e' h4 ⟨us, vs, rfl, hx, U4, g4, f0, f4, f19, f20, f21⟩
  have lt4 := lt_of_get g4
  cases vs with
  | nil =>
    have hL : iwrites o = us := by simpa using hx
    have hll : ((iwrites o).length : Int) = us.length := by rw [hL]
    simp (maxSteps := 10000000) (disch := first | assumption | ((try simp only [push_next, put_next, adv_next, List.length_cons, List.length_nil, List.length_map, List.length_set]); omega) | simp) [f19, f20, f21, hll]
    exact hout _ _ (by rw [g4, hL]) U4
  | cons z vs =>
    obtain ⟨z0, z1⟩ := hwb z (by rw [hx]; simp)
    have z2 : z ≤ 39 := by omega
    have hll : (us.length : Int) < (iwrites o).length := by rw [hx]; simp; omega
    obtain ⟨B, ro, C, rfl, k1, k2⟩ := Sees.cell (f := fun n => Value.int .i64 n) (fun _ => rfl) rfl (us := us) (x := z) (vs := vs) (by rw [← hx]; exact sw)
    have hB : B.block ≠ b := fun hh => by
      rw [hh, g3] at k1
      cases k1
      have hlen := fcells_len ⟨f.is, w⟩ hwl
      by_cases h40 : B.off + us.length < 40
      · have := fcells_is ⟨f.is, w⟩ (z := ((B.off + us.length : Nat) : Int)) (by omega) (by omega)
        simp only [Int.toNat_natCast] at this
        rw [this] at k2
        cases k2
      · by_cases h80 : B.off + us.length < 80
        · have := fcells_v ⟨f.is, w⟩ hwl (z := ((B.off + us.length - 40 : Nat) : Int)) (by omega) (by omega)
          simp only [Int.toNat_natCast] at this
          rw [show 40 + (B.off + us.length - 40) = B.off + us.length by omega] at this
          rw [this] at k2
          simp [u32] at k2
        · rw [List.getElem?_eq_none (by omega)] at k2
          cases k2
    have k1' : h4.get B.block = some (.cells ro C) := by rw [U4.get _ (lt_of_get k1) (by simpa using hB), k1]
    have hset := fcells_set ⟨fun c => if c ∈ us then kn else f.is c, w⟩ (z := z) kn z0 z1
    have hlen := fcells_len ⟨fun c => if c ∈ us then kn else f.is c, w⟩ hwl
    have o1 := fun (l : List Value) n v => over_set (l := l) (i := n) (v := v)
    have hcon : fcells ⟨fun c => if c = z then kn else if c ∈ us then kn else f.is c, w⟩ = fcells ⟨fun c => if c ∈ us ++ [z] then kn else f.is c, w⟩ := fcells_congr (fun c h0 h1 => by
      by_cases hc : c = z
      · subst hc; simp
      · simp [hc]) rfl
    have z5 : z ≤ 79 := by omega
    simp (maxSteps := 10000000) (disch := first | assumption | ((try simp only [push_next, put_next, adv_next, List.length_cons, List.length_nil, List.length_map, List.length_set]); omega) | simp) [f0, f4, f19, f20, f21, hll, k1', k2, g4, z2, z5, hlen, -over, o1]
    refine ih vs.length (by simp) _ _ ⟨us ++ [z], vs, rfl, by simp [hx], U4.put1, ?_, by simp [f0], by simp [f4], by simp [f19], by simp [f20], by simp⟩
    rw [get_put_self lt4, hset, hcon]
theorem opt_done (ho : o.ok) (hg : h.get b = some (.cells false (fcells f))) (hv : f.v.length = 40) (hz : rg f.v 0 = 0#32)
    (hq : ∀ h', h'.get b = some (.cells false (fcells (fdone f o))) → Upd h h' [b] [b] → q (.tuple #[]) h') : WC T n_opt_facts_done [ptr b 0, .agg (encOp.enc o).toArray] h q := by
  have hlt := lt_of_get hg
  rw [w_opt_facts_done]
  simp (maxSteps := 10000000) (disch := first | assumption | ((try simp only [push_next, put_next, adv_next, List.length_cons, List.length_nil, List.length_map, List.length_set]); omega) | simp) [encOp, Hp.rdn]
  generalize hM : h.push (.cells false [.int .i64 o.k, .int .i64 o.d, .int .i64 o.a, .int .i64 o.b, u32 o.imm]) = M
  have KM : Kp h M := by rw [← hM]; exact (Kp.refl h).push _
  have gM : M.get h.next = some (.cells false (encOp.enc o)) := by rw [← hM, get_push_self]; rfl
  refine GC_intro (ir_reads (o := o)) fun v h1 ⟨hz1, K1⟩ => ?_
  obtain ⟨ar, cr, rfl, sr⟩ := hz1
  have g1 := ((KM.trans K1).get _ hlt).trans hg
  have go1 := (K1.get _ (lt_of_get gM)).trans gM
  have ro1 := rdn_all (n := 5) go1 rfl
  simp only [encOp] at ro1
  have ro1a := rdn_all (h := h1.adv 1) (n := 5) go1 rfl
  simp only [encOp] at ro1a
  have hrb : ∀ n ∈ ireads o, 0 ≤ n ∧ n < 40 := fun n hn => ireads_in hn
  have hbo : b ≠ h.next := by omega
  by_cases hk : knows f (ireads o) = true
  · have n1 := (KM.trans K1).le
    have lo1 := lt_of_get go1
    simp (maxSteps := 10000000) (disch := first | assumption | ((try simp only [push_next, put_next, adv_next, List.length_cons, List.length_nil, List.length_map, List.length_set]); omega) | simp) [GC_of (fun q => opt_knows (q := q) g1 hv sr hrb (ireads_len o)), hk, ro1, ro1a]
    have K4 := (Kp.refl h1).push (.cells false (encOp.enc o))
    have g1' : (h1.push (.cells false (encOp.enc o))).get b = some (.cells false (bls f.is ++ f.v.map u32)) := (K4.get _ (lt_of_get g1)).trans g1
    have okx : oks [o] := fun x hx => by simp at hx; subst hx; exact ho
    refine GCI_intro (ir_runK (c := b) (cp := 1) (L := [o]) (P := bls f.is) (k := 40) (q := fun v h2 => h2.get b = some (.cells false (bls f.is ++ (ido f.v o).map u32)) ∧ Upd (h1.push (.cells false (encOp.enc o))) h2 [b] [b]) (by simp) hv g1' (sees_o1 (ro := false) get_push_self) (fun A hh => by cases hh; simp; omega) (by simp) fun h2 g2 u2 => ⟨by rw [g2, if_pos okx, set_zero hz]; rfl, u2⟩) fun v h2 ⟨g2, u2⟩ => ?_
    have go2 : h2.get h.next = some (.cells false (encOp.enc o)) := by rw [u2.get _ (by simp; omega) (by simpa using hbo.symm), K4.get _ lo1, go1]
    have ro2 := rdn_all (n := 5) go2 rfl
    simp only [encOp] at ro2
    simp (maxSteps := 10000000) (disch := first | assumption | ((try simp only [push_next, put_next, adv_next, List.length_cons, List.length_nil, List.length_map, List.length_set]); omega) | simp) [ro2]
    refine GC_intro (ir_writes (o := o)) fun v h3 ⟨hz3, K3⟩ => ?_
    obtain ⟨aw, cw, rfl, sw⟩ := hz3
    have g3 := (K3.get _ (lt_of_get g2)).trans g2
    simp (maxSteps := 10000000) (disch := first | assumption | ((try simp only [push_next, put_next, adv_next, List.length_cons, List.length_nil, List.length_map, List.length_set]); omega) | simp) []
    refine done_loop (f := f) (o := o) (w := ido f.v o) (kn := true) (cw := cw) (by simp [hv]) sw g3 (by simp) (by simp) (by simp) (by simp) (by simp) fun e' h4 g4 u4 => ?_
    simp (maxSteps := 10000000) (disch := first | assumption | ((try simp only [push_next, put_next, adv_next, List.length_cons, List.length_nil, List.length_map, List.length_set]); omega) | simp) []
    refine hq _ ?_ ((((((KM.trans K1).trans K4).upd _).trans u2).one K3).trans u4)
    rw [g4]
    congr 2
    exact fcells_congr (fun c _ _ => by simp [fdone, hk]) (by simp [fdone, hk])
  · have hk' : knows f (ireads o) = false := by simpa using hk
    simp (maxSteps := 10000000) (disch := first | assumption | ((try simp only [push_next, put_next, adv_next, List.length_cons, List.length_nil, List.length_map, List.length_set]); omega) | simp) [GC_of (fun q => opt_knows (q := q) g1 hv sr hrb (ireads_len o)), hk', ro1]
    refine GC_intro (ir_writes (o := o)) fun v h3 ⟨hz3, K3⟩ => ?_
    obtain ⟨aw, cw, rfl, sw⟩ := hz3
    have g3 := (K3.get _ (lt_of_get g1)).trans g1
    simp (maxSteps := 10000000) (disch := first | assumption | ((try simp only [push_next, put_next, adv_next, List.length_cons, List.length_nil, List.length_map, List.length_set]); omega) | simp) []
    refine done_loop (f := f) (o := o) (w := f.v) (kn := false) (cw := cw) hv sw g3 (by simp) (by simp) (by simp) (by simp) (by simp) fun e' h4 g4 u4 => ?_
    simp (maxSteps := 10000000) (disch := first | assumption | ((try simp only [push_next, put_next, adv_next, List.length_cons, List.length_nil, List.length_map, List.length_set]); omega) | simp) []
    refine hq _ ?_ ((((KM.trans K1).trans K3).upd _).trans u4)
    rw [g4]
    congr 2
    exact fcells_congr (fun c _ _ => by simp [fdone, hk']) (by simp [fdone, hk'])
end
end Go.Proofs.Ytjobkhnanbkcjaa.Cd

/- Shorter rows: operations whose cells are known. -/
set_option maxRecDepth 1000000
set_option maxHeartbeats 8000000
set_option linter.unusedSimpArgs false
set_option linter.unusedVariables false
namespace Go.Proofs.Ytjobkhnanbkcjaa.Cd
open Go Go.Dx
section
variable {h : Hp} {q : Value → Hp → Prop} {b c c' : Nat} {o p : IOp} {R : Regs} {a a' : Option Addr} {L : List IOp} {f : Facts}
theorem at_of {X : List Value} {i : Nat} {v : Value} (h : X[i]? = some v) (hh : i < X.length) : X[i]'hh = v := by
  rw [List.getElem?_eq_getElem hh] at h
  simpa using h
theorem rdn_off {h : Hp} {b k n : Nat} {ro : Bool} {P C : List Value} (hg : h.get b = some (.cells ro (P ++ C))) (hk : P.length = k) (hn : C.length = n) : h.rdn b k n = some C := by
  subst hk
  subst hn
  simp [Hp.rdn, hg]
def FoldR (f : Facts) (o : IOp) (v : Value) : Prop := ∃ (x : IOp) (t : Bool), v = .tuple #[.agg (encOp.enc x).toArray, .bool t] ∧ ((t = true ∧ fold1 f o = some x) ∨ (t = false ∧ fold1 f o = none))
theorem opt_fold (ho : o.ok) (hg : h.get b = some (.cells false (fcells f))) (hv : f.v.length = 40) (hz : rg f.v 0 = 0#32) : WC T n_opt_facts_fold [ptr b 0, .agg (encOp.enc o).toArray] h fun v h' => FoldR f o v ∧ Kp h h' := by
  have hlt := lt_of_get hg
  obtain ⟨⟨d0, d1⟩, ⟨a0, a1⟩, ⟨b0, b1⟩, k0, k1⟩ := id ho
  rw [w_opt_facts_fold]
  simp (maxSteps := 10000000) (disch := first | assumption | ((try simp only [push_next, put_next, adv_next, List.length_cons, List.length_nil, List.length_map, List.length_set]); omega) | simp) [encOp, Hp.rdn]
  generalize hM : (h.push (.cells false [.int .i64 o.k, .int .i64 o.d, .int .i64 o.a, .int .i64 o.b, u32 o.imm])).push (.cells false [.int .i64 0, .int .i64 0, .int .i64 0, .int .i64 0, u32 0#32]) = M
  have KM : Kp h M := by rw [← hM]; exact ((Kp.refl h).push _).push _
  have gM : M.get h.next = some (.cells false (encOp.enc o)) := by rw [← hM, get_push_ne (by simp), get_push_self]; rfl
  have gX : M.get (h.next + 1) = some (.cells false [.int .i64 0, .int .i64 0, .int .i64 0, .int .i64 0, u32 0#32]) := by rw [← hM]; exact get_push_self (h := h.push _)
  refine GC_intro (ir_writes (o := o)) fun v h1 ⟨hz1, K1⟩ => ?_
  obtain ⟨aw, cw, rfl, sw⟩ := hz1
  have g1 := ((KM.trans K1).get _ hlt).trans hg
  have go1 := (K1.get _ (lt_of_get gM)).trans gM
  have gx1 := (K1.get _ (lt_of_get gX)).trans gX
  have KH1 := KM.trans K1
  have ro1 := rdn_all (n := 5) go1 rfl
  simp only [encOp] at ro1 go1
  have n1 : h.next + 1 < h1.next := lt_of_get gx1
  have sure' := fun (h : Hp) (q : Value → Hp → Prop) => opt_sure (h := h) (q := q) (o := o)
  simp only [encOp] at sure'
  have KS := (Kp.refl h1).push (.cells false [.int .i64 o.k, .int .i64 o.d, .int .i64 o.a, .int .i64 o.b, u32 o.imm])
  have fib := fcells_is f b0 b1
  have hfl := fcells_len f hv
  have bl : o.b ≤ 39 := by omega
  have bl79 : o.b ≤ 79 := by omega
  have fvb := fcells_v f hv b0 b1
  have wx : ∀ (g : Hp) (vs : List Value), g.get (h.next + 1) = h1.get (h.next + 1) → vs.length = 5 → vs.all one = true → g.wr (h.next + 1) 0 vs = some (g.put (h.next + 1) (some (.cells false vs))) := fun g vs hgg hl hone => wr_all (by rw [hgg, gx1]) (by simp [hl]) hone
  generalize hX : fcells f = X at g1 fib fvb hfl
  by_cases hs : isure o = true
  case neg =>
    have hs' : isure o = false := by simpa using hs
    have hk : o.k = 21 ∨ o.k = 22 := by
      unfold isure at hs'
      by_cases h1 : o.k = 21
      · exact .inl h1
      · by_cases h2 : o.k = 22
        · exact .inr h2
        · simp [h1, h2] at hs'
    by_cases hb : f.is o.b = true
    · simp only [hb] at fib
      have hb2 : (fcells f)[40 + o.b.toNat]? = some (u32 (rg f.v o.b)) := by rw [hX]; exact fvb
      have e : fold1 f o = if ((rg f.v o.b = 0#32) ↔ (o.k = 21)) then some ⟨2, o.d, o.a, 0, 0#32⟩ else none := by unfold fold1; rw [if_pos ⟨hs', hb⟩]
      have w1 := wx (h1.push (.cells false [.int .i64 o.k, .int .i64 o.d, .int .i64 o.a, .int .i64 o.b, u32 o.imm])) [.int .i64 2, .int .i64 o.d, .int .i64 o.a, .int .i64 0, u32 0#32] (get_push_ne (by omega)) rfl rfl
      have r1 : ((h1.push (.cells false [.int .i64 o.k, .int .i64 o.d, .int .i64 o.a, .int .i64 o.b, u32 o.imm])).put (h.next + 1) (some (.cells false [.int .i64 2, .int .i64 o.d, .int .i64 o.a, .int .i64 0, u32 0#32]))).rdn (h.next + 1) 0 5 = some [.int .i64 2, .int .i64 o.d, .int .i64 o.a, .int .i64 0, u32 0#32] := rdn_all (ro := false) (get_put_self (by simp; omega)) rfl
      have KE : Kp h ((h1.push (.cells false [.int .i64 o.k, .int .i64 o.d, .int .i64 o.a, .int .i64 o.b, u32 o.imm])).put (h.next + 1) (some (.cells false [.int .i64 2, .int .i64 o.d, .int .i64 o.a, .int .i64 0, u32 0#32]))) := (KH1.trans KS).put (by omega) _
      by_cases hv0 : rg f.v o.b = 0#32
      · rw [hv0] at fvb
        rcases hk with hk | hk <;>
        · simp only [hk] at ro1 go1 sure' KS w1 r1 KE
          simp (maxSteps := 10000000) (disch := first | assumption | ((try simp only [push_next, put_next, adv_next, List.length_cons, List.length_nil, List.length_map, List.length_set]); omega) | simp) [GC_of (fun q => sure' _ q), GCI_of (fun q => sure' _ q), hs', ro1, go1, g1, fib, fvb, at_of fib, at_of fvb, bl, bl79, hfl, w1, r1, -Hp.wr, hk, GRe, hv0]
          refine ⟨⟨⟨2, o.d, o.a, 0, 0#32⟩, _, rfl, ?_⟩, KE⟩
          rw [e]; simp [hv0, hk]
      · rcases hk with hk | hk <;>
        · simp only [hk] at ro1 go1 sure' KS w1 r1 KE
          simp (maxSteps := 10000000) (disch := first | assumption | ((try simp only [push_next, put_next, adv_next, List.length_cons, List.length_nil, List.length_map, List.length_set]); omega) | simp) [GC_of (fun q => sure' _ q), GCI_of (fun q => sure' _ q), hs', ro1, go1, g1, fib, fvb, at_of fib, at_of fvb, bl, bl79, hfl, w1, r1, -Hp.wr, hk, GRe, hv0]
          refine ⟨⟨⟨2, o.d, o.a, 0, 0#32⟩, _, rfl, ?_⟩, KE⟩
          rw [e]; simp [hv0, hk]
    · have hb' : f.is o.b = false := by simpa using hb
      simp only [hb'] at fib
      have e : fold1 f o = some o := by
        unfold fold1
        rw [if_neg (fun hh => hb hh.2), if_pos (.inl hs')]
      have w1 := wx ((h1.push (.cells false [.int .i64 o.k, .int .i64 o.d, .int .i64 o.a, .int .i64 o.b, u32 o.imm])).push (.cells false [.int .i64 o.k, .int .i64 o.d, .int .i64 o.a, .int .i64 o.b, u32 o.imm])) [.int .i64 o.k, .int .i64 o.d, .int .i64 o.a, .int .i64 o.b, u32 o.imm] (by rw [get_push_ne (by simp; omega), get_push_ne (by omega)]) rfl rfl
      have r1 : (((h1.push (.cells false [.int .i64 o.k, .int .i64 o.d, .int .i64 o.a, .int .i64 o.b, u32 o.imm])).push (.cells false [.int .i64 o.k, .int .i64 o.d, .int .i64 o.a, .int .i64 o.b, u32 o.imm])).put (h.next + 1) (some (.cells false [.int .i64 o.k, .int .i64 o.d, .int .i64 o.a, .int .i64 o.b, u32 o.imm]))).rdn (h.next + 1) 0 5 = some [.int .i64 o.k, .int .i64 o.d, .int .i64 o.a, .int .i64 o.b, u32 o.imm] := rdn_all (ro := false) (get_put_self (by simp; omega)) rfl
      have KE : Kp h (((h1.push (.cells false [.int .i64 o.k, .int .i64 o.d, .int .i64 o.a, .int .i64 o.b, u32 o.imm])).push (.cells false [.int .i64 o.k, .int .i64 o.d, .int .i64 o.a, .int .i64 o.b, u32 o.imm])).put (h.next + 1) (some (.cells false [.int .i64 o.k, .int .i64 o.d, .int .i64 o.a, .int .i64 o.b, u32 o.imm]))) := ((KH1.trans KS).push _).put (by omega) _
      have ro2 : (h1.push (.cells false [.int .i64 o.k, .int .i64 o.d, .int .i64 o.a, .int .i64 o.b, u32 o.imm])).rdn h.next 0 5 = some [.int .i64 o.k, .int .i64 o.d, .int .i64 o.a, .int .i64 o.b, u32 o.imm] := rdn_all ((get_push_ne (by omega)).trans go1) rfl
      have ro3 : ((h1.push (.cells false [.int .i64 o.k, .int .i64 o.d, .int .i64 o.a, .int .i64 o.b, u32 o.imm])).push (.cells false [.int .i64 o.k, .int .i64 o.d, .int .i64 o.a, .int .i64 o.b, u32 o.imm])).rdn h.next 0 5 = some [.int .i64 o.k, .int .i64 o.d, .int .i64 o.a, .int .i64 o.b, u32 o.imm] := rdn_all ((get_push_ne (by simp; omega)).trans ((get_push_ne (by omega)).trans go1)) rfl
      simp (maxSteps := 10000000) (disch := first | assumption | ((try simp only [push_next, put_next, adv_next, List.length_cons, List.length_nil, List.length_map, List.length_set]); omega) | simp) [GC_of (fun q => sure' _ q), GCI_of (fun q => sure' _ q), hs', ro1, ro2, ro3, go1, g1, fib, at_of fib, bl, bl79, hfl, w1, r1, -Hp.wr]
      exact ⟨⟨o, true, rfl, .inl ⟨rfl, e⟩⟩, KE⟩
  have w1 := wx ((h1.push (.cells false [.int .i64 o.k, .int .i64 o.d, .int .i64 o.a, .int .i64 o.b, u32 o.imm])).push (.cells false [.int .i64 o.k, .int .i64 o.d, .int .i64 o.a, .int .i64 o.b, u32 o.imm])) [.int .i64 o.k, .int .i64 o.d, .int .i64 o.a, .int .i64 o.b, u32 o.imm] (by rw [get_push_ne (by simp; omega), get_push_ne (by omega)]) rfl rfl
  have r1 : (((h1.push (.cells false [.int .i64 o.k, .int .i64 o.d, .int .i64 o.a, .int .i64 o.b, u32 o.imm])).push (.cells false [.int .i64 o.k, .int .i64 o.d, .int .i64 o.a, .int .i64 o.b, u32 o.imm])).put (h.next + 1) (some (.cells false [.int .i64 o.k, .int .i64 o.d, .int .i64 o.a, .int .i64 o.b, u32 o.imm]))).rdn (h.next + 1) 0 5 = some [.int .i64 o.k, .int .i64 o.d, .int .i64 o.a, .int .i64 o.b, u32 o.imm] := rdn_all (ro := false) (get_put_self (by simp; omega)) rfl
  have KE : Kp h (((h1.push (.cells false [.int .i64 o.k, .int .i64 o.d, .int .i64 o.a, .int .i64 o.b, u32 o.imm])).push (.cells false [.int .i64 o.k, .int .i64 o.d, .int .i64 o.a, .int .i64 o.b, u32 o.imm])).put (h.next + 1) (some (.cells false [.int .i64 o.k, .int .i64 o.d, .int .i64 o.a, .int .i64 o.b, u32 o.imm]))) := ((KH1.trans KS).push _).put (by omega) _
  have ro2 : (h1.push (.cells false [.int .i64 o.k, .int .i64 o.d, .int .i64 o.a, .int .i64 o.b, u32 o.imm])).rdn h.next 0 5 = some [.int .i64 o.k, .int .i64 o.d, .int .i64 o.a, .int .i64 o.b, u32 o.imm] := rdn_all ((get_push_ne (by omega)).trans go1) rfl
  generalize hS : (h1.push (.cells false [.int .i64 o.k, .int .i64 o.d, .int .i64 o.a, .int .i64 o.b, u32 o.imm])).push (.cells false [.int .i64 o.k, .int .i64 o.d, .int .i64 o.a, .int .i64 o.b, u32 o.imm]) = S at w1 r1 KE
  have KS2 : Kp h1 S := by rw [← hS]; exact KS.push _
  have ro3 : S.rdn h.next 0 5 = some [.int .i64 o.k, .int .i64 o.d, .int .i64 o.a, .int .i64 o.b, u32 o.imm] := rdn_all ((KS2.get _ (by omega)).trans go1) rfl
  have ns : ¬ (isure o = false ∧ f.is o.b = true) := fun hh => by rw [hs] at hh; cases hh.1
  by_cases hl : (iwrites o).length = 1
  case neg =>
    have hl' : ¬ ((iwrites o).length : Int) = 1 := by omega
    have e : fold1 f o = some o := by
      unfold fold1
      rw [if_neg ns, if_pos (.inr (.inl hl))]
    simp (maxSteps := 10000000) (disch := first | assumption | ((try simp only [push_next, put_next, adv_next, List.length_cons, List.length_nil, List.length_map, List.length_set]); omega) | simp) [GC_of (fun q => sure' _ q), GCI_of (fun q => sure' _ q), hs, ro1, ro2, ro3, hS, hl, hl', w1, r1, -Hp.wr]
    exact ⟨⟨o, true, rfl, .inl ⟨rfl, e⟩⟩, KE⟩
  have hl' : ((iwrites o).length : Int) = 1 := by omega
  simp (maxSteps := 10000000) (disch := first | assumption | ((try simp only [push_next, put_next, adv_next, List.length_cons, List.length_nil, List.length_map, List.length_set]); omega) | simp) [GC_of (fun q => sure' _ q), GCI_of (fun q => sure' _ q), hs, ro1, ro2, ro3, hS, hl, hl', -Hp.wr]
  refine GC_intro (ir_reads (o := o)) fun v h5 ⟨hz5, K5⟩ => ?_
  obtain ⟨ar, cr, rfl, sr⟩ := hz5
  have K15 := KS2.trans K5
  have g5 : h5.get b = some (.cells false (fcells f)) := by rw [K15.get _ (lt_of_get g1), g1, hX]
  have go5 := (K15.get _ (lt_of_get go1)).trans go1
  have gx5 := (K15.get _ (lt_of_get gx1)).trans gx1
  have ro5 := rdn_all (n := 5) go5 rfl
  have n5 := K15.le
  have wx5 : ∀ (g : Hp) (vs : List Value), g.get (h.next + 1) = h5.get (h.next + 1) → vs.length = 5 → vs.all one = true → g.wr (h.next + 1) 0 vs = some (g.put (h.next + 1) (some (.cells false vs))) := fun g vs hgg hl hone => wr_all (by rw [hgg, gx5]) (by simp [hl]) hone
  have kn := fun q => opt_knows (q := q) (c := cr) g5 hv sr (fun n hn => ireads_in hn) (ireads_len o)
  by_cases hk : knows f (ireads o) = true
  case neg =>
    have hk' : knows f (ireads o) = false := by simpa using hk
    have e : fold1 f o = some o := by
      unfold fold1
      rw [if_neg ns, if_pos (.inr (.inr hk'))]
    have w2 := wx5 h5 [.int .i64 o.k, .int .i64 o.d, .int .i64 o.a, .int .i64 o.b, u32 o.imm] rfl rfl rfl
    have r2 : (h5.put (h.next + 1) (some (.cells false [.int .i64 o.k, .int .i64 o.d, .int .i64 o.a, .int .i64 o.b, u32 o.imm]))).rdn (h.next + 1) 0 5 = some [.int .i64 o.k, .int .i64 o.d, .int .i64 o.a, .int .i64 o.b, u32 o.imm] := rdn_all (ro := false) (get_put_self (by omega)) rfl
    simp (maxSteps := 10000000) (disch := first | assumption | ((try simp only [push_next, put_next, adv_next, List.length_cons, List.length_nil, List.length_map, List.length_set]); omega) | simp) [GC_of kn, hk', ro5, w2, r2, -Hp.wr]
    exact ⟨⟨o, true, rfl, .inl ⟨rfl, e⟩⟩, (KH1.trans K15).put (by omega) _⟩
  obtain ⟨w1', w2', w3', w4', w5'⟩ := writes_one ho hs hl
  have e : fold1 f o = some ⟨1, o.d, 0, 0, rg (ido f.v o) o.d⟩ := by
    unfold fold1
    rw [if_neg ns, if_neg (by simp [hs, hl, hk])]
  have rv := rdn_off (k := 40) (n := 40) (h := h5) (b := b) (ro := false) (P := bls f.is) (C := f.v.map u32) g5 (by simp) (by simp [hv])
  have wN : (h5.push (.cells false (List.replicate 40 (u32 0#32)))).wr h5.next 0 (f.v.map u32) = some (h5.push (.cells false (f.v.map u32))) := wr_new (by simp [hv]) (all_u32 _)
  simp (maxSteps := 10000000) (disch := first | assumption | ((try simp only [push_next, put_next, adv_next, List.length_cons, List.length_nil, List.length_map, List.length_set]); omega) | simp) [GC_of kn, hk, ro5, rv, wN, -Hp.wr, -List.reduceReplicate, hv, all_u32]
  generalize hN : h5.push (.cells false (f.v.map u32)) = N
  have KN : Kp h5 N := by rw [← hN]; exact (Kp.refl h5).push _
  have gN : N.get h5.next = some (.cells false (f.v.map u32)) := by rw [← hN, get_push_self]
  have goN := (KN.get _ (lt_of_get go5)).trans go5
  have gxN := (KN.get _ (lt_of_get gx5)).trans gx5
  have roN := rdn_all (n := 5) goN rfl
  have lN := lt_of_get gN
  simp (maxSteps := 10000000) (disch := first | assumption | ((try simp only [push_next, put_next, adv_next, List.length_cons, List.length_nil, List.length_map, List.length_set]); omega) | simp) [roN, -Hp.wr]
  have K6 := (Kp.refl N).push (.cells false (encOp.enc o))
  have okx : oks [o] := fun x hx => by simp at hx; subst hx; exact ho
  refine GC_intro (ir_run (c := h5.next) (cp := 1) (L := [o]) (q := fun v h2 => h2.get h5.next = some (.cells false ((ido f.v o).map u32)) ∧ Upd (N.push (.cells false (encOp.enc o))) h2 [h5.next] [h5.next]) hv ((K6.get _ lN).trans gN) (sees_o1 (ro := false) get_push_self) (fun A hh => by cases hh; simp; omega) (by simp) fun h2 g2 u2 => ⟨by rw [g2, if_pos okx, set_zero hz]; rfl, u2⟩) fun v h7 ⟨g7, u7⟩ => ?_
  have lgo := lt_of_get goN
  have lgx := lt_of_get gxN
  have go7 := (u7.get h.next (by simp; omega) (by simp; omega)).trans ((K6.get _ lgo).trans goN)
  have gx7 := (u7.get (h.next + 1) (by simp; omega) (by simp; omega)).trans ((K6.get _ lgx).trans gxN)
  have ro7 := rdn_all (n := 5) go7 rfl
  have dl : o.d ≤ 39 := by omega
  have rd := rg_at (R := ido f.v o) d0 (by simp; omega)
  have ml : ((ido f.v o).map u32).length = 40 := by simp [hv]
  have rd2 : ((ido f.v o).map u32)[o.d.toNat]? = some (u32 (rg (ido f.v o) o.d)) := by rw [List.getElem?_map, rd]; rfl
  generalize hY : (ido f.v o).map u32 = Y at g7 ml rd2
  have w2 : h7.wr (h.next + 1) 0 [.int .i64 1, .int .i64 o.d, .int .i64 0, .int .i64 0, u32 (rg (ido f.v o) o.d)] = some (h7.put (h.next + 1) (some (.cells false [.int .i64 1, .int .i64 o.d, .int .i64 0, .int .i64 0, u32 (rg (ido f.v o) o.d)]))) := wr_all gx7 rfl rfl
  have r2 : (h7.put (h.next + 1) (some (.cells false [.int .i64 1, .int .i64 o.d, .int .i64 0, .int .i64 0, u32 (rg (ido f.v o) o.d)]))).rdn (h.next + 1) 0 5 = some [.int .i64 1, .int .i64 o.d, .int .i64 0, .int .i64 0, u32 (rg (ido f.v o) o.d)] := rdn_all (ro := false) (get_put_self (lt_of_get gx7)) rfl
  simp (maxSteps := 10000000) (disch := first | assumption | ((try simp only [push_next, put_next, adv_next, List.length_cons, List.length_nil, List.length_map, List.length_set]); omega) | simp) [go7, g7, rd2, at_of rd2, dl, ml, w2, r2, -Hp.wr]
  refine ⟨⟨⟨1, o.d, 0, 0, rg (ido f.v o) o.d⟩, true, rfl, .inl ⟨rfl, e⟩⟩, ?_⟩
  refine Kp.put ?_ (by omega) _
  exact u7.kp' ((((KH1.trans K15).trans KN).trans K6)) (by simp; omega)
end
end Go.Proofs.Ytjobkhnanbkcjaa.Cd

/- Shorter rows: folded, and without what nobody asks. -/
set_option maxRecDepth 1000000
set_option maxHeartbeats 8000000
set_option linter.unusedSimpArgs false
set_option linter.unusedVariables false
namespace Go.Proofs.Ytjobkhnanbkcjaa.Cd
open Go Go.Dx
section
variable {h : Hp} {q : Value → Hp → Prop} {b c c' : Nat} {o p : IOp} {R : Regs} {a a' : Option Addr} {L : List IOp} {f : Facts}
theorem fdone_v {f : Facts} {x : IOp} (hx : x.ok) (hv : f.v.length = 40) (hz : rg f.v 0 = 0#32) : (fdone f x).v.length = 40 ∧ rg (fdone f x).v 0 = 0#32 := by
  unfold fdone
  simp only
  split
  · exact ⟨by simp [hv], ido_zero hx hv hz⟩
  · exact ⟨hv, hz⟩
theorem facts0_cells : fcells facts0 = Value.bool true :: (List.replicate 39 (.bool false) ++ List.replicate 40 (u32 0#32)) := by
  unfold fcells facts0
  simp only [List.map_replicate]
  have : bls (fun c => decide (c = 0)) = Value.bool true :: List.replicate 39 (.bool false) := by
    apply List.ext_getElem?
    intro n
    by_cases hn : n < 40
    · rw [bls_nat _ hn]
      cases n with
      | zero => rfl
      | succ n =>
        rw [List.getElem?_cons_succ, List.getElem?_replicate, if_pos (by omega)]
        have : ¬ (((n + 1 : Nat) : Int) = 0) := by omega
        simp only [this, decide_false]
    · rw [List.getElem?_eq_none (by simp; omega), List.getElem?_eq_none (by simp; omega)]
  rw [this]
  rfl
theorem opt_Fold (hs : Sees encOp h a L) (hb : L.length < 2 ^ 40) : WC T n_opt_Fold [.slice a L.length c] h fun v h' => OwnNew h h' v (if oks L then ifold L else []) ∧ Kp h h' := by
  rw [w_opt_Fold]
  simp (maxSteps := 10000000) (disch := first | assumption | ((try simp only [push_next, put_next, adv_next, List.length_cons, List.length_nil, List.length_map, List.length_set]); omega) | simp)
  refine GC_intro (opt_right hs (by omega)) fun v h1 ⟨hv, K1⟩ => ?_
  subst hv
  by_cases hok : oks L
  case neg =>
    simp (maxSteps := 10000000) (disch := first | assumption | ((try simp only [push_next, put_next, adv_next, List.length_cons, List.length_nil, List.length_map, List.length_set]); omega) | simp) [hok]
    exact ⟨⟨[], .nul, by simp⟩, K1⟩
  rw [if_pos hok]
  simp (maxSteps := 10000000) (disch := first | assumption | ((try simp only [push_next, put_next, adv_next, List.length_cons, List.length_nil, List.length_map, List.length_set]); omega) | simp) [hok]
  have n1 := K1.le
  generalize hM : h1.push _ = M
  have gM : M.get h1.next = some (.cells false (fcells facts0)) := by
    rw [← hM, get_push_self, facts0_cells]; rfl
  have KM : Kp h M := by rw [← hM]; exact K1.push _
  refine G_loop (fun n e h' => ∃ us vs f D fp, n = vs.length ∧ L = us ++ vs ∧ ifold L = D ++ ffold f vs ∧ D.length ≤ us.length ∧ f.v.length = 40 ∧ rg f.v 0 = 0#32 ∧ h'.get h1.next = some (.cells false (fcells f)) ∧ Own encOp h' (e 4) D fp ∧ (∀ b ∈ fp, h1.next < b) ∧ Kp h h' ∧ e 3 = ptr h1.next 0 ∧ e 18 = .slice a L.length c ∧ e 19 = .int .i64 L.length ∧ e 20 = .int .i64 us.length) ?_ L.length _ _ ⟨[], L, facts0, [], [], rfl, rfl, rfl, by simp, by simp [facts0], rfl, gM, by simp; exact .nul, by simp, KM, by simp, by simp, by simp, by simp⟩
  clear gM KM hM M
  rintro n ih e h' ⟨us, vs, f, D, fp, rfl, hx, hF, hD, hv, hz, g, O, hfp, K, e3, e18, e19, e20⟩
  have lt := lt_of_get g
  have hxl : L.length = us.length + vs.length := by rw [hx]; simp
  cases vs with
  | nil =>
    have hll : (L.length : Int) = us.length := by simp at hxl; omega
    simp (maxSteps := 10000000) (disch := first | assumption | ((try simp only [push_next, put_next, adv_next, List.length_cons, List.length_nil, List.length_map, List.length_set]); omega) | simp) [e3, e18, e19, e20, hll]
    refine ⟨⟨fp, ?_, fun b hb => by have := hfp b hb; omega⟩, K⟩
    rw [hF]
    simpa [ffold] using O
  | cons o vs =>
    simp only [List.length_cons] at hxl
    have hlen : us.length < L.length := by omega
    have hlen' : (us.length : Int) < L.length := by omega
    have hoo : o.ok := hok o (by rw [hx]; simp)
    obtain ⟨A, rfl, hr⟩ := Sees.mid (A := us) (x := o) (B := vs) (by rw [← hx]; exact hs.kp K)
    have hr' : h'.rdn A.block (A.off + us.length * 5) 5 = some [.int .i64 o.k, .int .i64 o.d, .int .i64 o.a, .int .i64 o.b, u32 o.imm] := hr
    have rP : (h'.push (.cells false [.int .i64 o.k, .int .i64 o.d, .int .i64 o.a, .int .i64 o.b, u32 o.imm])).rdn h'.next 0 5 = some [.int .i64 o.k, .int .i64 o.d, .int .i64 o.a, .int .i64 o.b, u32 o.imm] := rdn_all get_push_self rfl
    simp (maxSteps := 10000000) (disch := first | assumption | ((try simp only [push_next, put_next, adv_next, List.length_cons, List.length_nil, List.length_map, List.length_set]); omega) | simp) [e3, e18, e19, e20, hlen, hlen', hr', rP]
    generalize hP : h'.push (.cells false [.int .i64 o.k, .int .i64 o.d, .int .i64 o.a, .int .i64 o.b, u32 o.imm]) = P
    have KP : Kp h' P := by rw [← hP]; exact (Kp.refl h').push _
    have gP := (KP.get _ lt).trans g
    refine GC_intro (opt_fold (o := o) hoo gP hv hz) fun v h2 ⟨⟨x, t, hv2, hx2⟩, K2⟩ => ?_
    subst hv2
    have K'2 := KP.trans K2
    have g2 := (K'2.get _ lt).trans g
    rcases hx2 with ⟨rfl, hf1⟩ | ⟨rfl, hf1⟩
    · have hFs : ffold f (o :: vs) = x :: ffold (fdone f x) vs := by simp only [ffold, hf1]
      have hxo := fold1_ok hoo hf1
      have rQ : (h2.push (.cells false [.int .i64 x.k, .int .i64 x.d, .int .i64 x.a, .int .i64 x.b, u32 x.imm])).rdn h2.next 0 5 = some [.int .i64 x.k, .int .i64 x.d, .int .i64 x.a, .int .i64 x.b, u32 x.imm] := rdn_all get_push_self rfl
      simp (maxSteps := 10000000) (disch := first | assumption | ((try simp only [push_next, put_next, adv_next, List.length_cons, List.length_nil, List.length_map, List.length_set]); omega) | simp) [encOp, rQ]
      generalize hQ : h2.push (.cells false [.int .i64 x.k, .int .i64 x.d, .int .i64 x.a, .int .i64 x.b, u32 x.imm]) = Q
      have KQ : Kp h2 Q := by rw [← hQ]; exact (Kp.refl h2).push _
      have gx : Q.get h2.next = some (.cells false (encOp.enc x)) := by rw [← hQ, get_push_self]; rfl
      have nQ : h2.next + 1 = Q.next := by rw [← hQ]; rfl
      rw [nQ]
      have O2 := O.kp (K'2.trans KQ)
      have gQ := (KQ.get _ (lt_of_get g2)).trans g2
      refine GV_app1 (E := encOp) (bytes := 40) (x := x) O2 (by omega) (by omega) fun v' h3 fp' O3 U3 => ?_
      have n2 := (K'2.trans KQ).le
      have hfl : ∀ b ∈ fp, b < h'.next := fun b hb => O.live b hb
      have g3 : h3.get h1.next = some (.cells false (fcells f)) := by rw [U3.get _ (lt_of_get gQ) (fun hh => by have := hfp _ hh; omega), gQ]
      have gx3 : h3.get h2.next = some (.cells false (encOp.enc x)) := by rw [U3.get _ (lt_of_get gx) (fun hh => by have := hfl _ hh; have := K'2.le; omega), gx]
      have rx3 := rdn_all (n := 5) gx3 rfl
      simp only [encOp] at rx3
      simp (maxSteps := 10000000) (disch := first | assumption | ((try simp only [push_next, put_next, adv_next, List.length_cons, List.length_nil, List.length_map, List.length_set]); omega) | simp) [rx3, e3]
      refine GC_intro (opt_done (o := x) (q := fun v h4 => h4.get h1.next = some (.cells false (fcells (fdone f x))) ∧ Upd h3 h4 [h1.next] [h1.next]) hxo g3 hv hz (fun h4 g4 u4 => ⟨g4, u4⟩)) fun v h4 ⟨g4, u4⟩ => ?_
      have hfp' : ∀ b ∈ fp', h1.next < b := fun b hb => by
        rcases U3.sub b hb with h5 | h5
        · exact hfp b h5
        · omega
      obtain ⟨hv', hz'⟩ := fdone_v (f := f) hxo hv hz
      simp (maxSteps := 10000000) (disch := first | assumption | ((try simp only [push_next, put_next, adv_next, List.length_cons, List.length_nil, List.length_map, List.length_set]); omega) | simp) [e20]
      refine ih vs.length (by simp) _ _ ⟨us ++ [o], vs, fdone f x, D ++ [x], fp', rfl, by simp [hx], by rw [hF, hFs]; simp, by simp; omega, hv', hz', g4, ?_, hfp', ?_, by simp [e3], by simp [e18], by simp [e19], by simp⟩
      · have := O3.keep (h' := h4) fun b hb => u4.get b (O3.live b hb) (by have := hfp' b hb; simp; omega)
        simpa using this
      · exact u4.kp' (U3.kp' (K.trans (K'2.trans KQ)) (fun b hb => by have := hfp b hb; omega)) (by simp; omega)
    · have hFs : ffold f (o :: vs) = ffold f vs := by simp only [ffold, hf1]
      simp (maxSteps := 10000000) (disch := first | assumption | ((try simp only [push_next, put_next, adv_next, List.length_cons, List.length_nil, List.length_map, List.length_set]); omega) | simp) [encOp, e20]
      refine ih vs.length (by simp) _ _ ⟨us ++ [o], vs, f, D, fp, rfl, by simp [hx], by rw [hF, hFs], by simp; omega, hv, hz, ?_, ?_, hfp, (K.trans K'2).push _, by simp [e3], by simp [e18], by simp [e19], by simp⟩
      · exact (((Kp.refl h2).push _).get _ (lt_of_get g2)).trans g2
      · have := O.kp (K'2.push (.cells false [.int .i64 x.k, .int .i64 x.d, .int .i64 x.a, .int .i64 x.b, u32 x.imm]))
        simpa using this
theorem own_new_sees {h h' : Hp} {v : Value} {X : List IOp} (O : OwnNew h h' v X) : ∃ a c, v = .slice a X.length c ∧ Sees encOp h' a X ∧ X.length ≤ c ∧ ∀ A, a = some A → h.next ≤ A.block := by
  obtain ⟨fp, O, hfp⟩ := O
  obtain ⟨a, c, rfl, s, hc, ha⟩ := O.len
  exact ⟨a, c, rfl, s, hc, fun A hA => hfp _ (ha A hA)⟩
theorem opt_Opt (hs : Sees encOp h a L) (hb : L.length < 2 ^ 40) : WC T n_opt_Opt [.slice a L.length c] h fun v h' => OwnNew h h' v (if oks L then iopt L else []) ∧ Kp h h' := by
  rw [w_opt_Opt]
  simp (maxSteps := 10000000) (disch := first | assumption | ((try simp only [push_next, put_next, adv_next, List.length_cons, List.length_nil, List.length_map, List.length_set]); omega) | simp)
  refine GC_intro (opt_Fold hs hb) fun v h1 ⟨O1, K1⟩ => ?_
  obtain ⟨a1, c1, rfl, s1, _, _⟩ := own_new_sees O1
  have hl : (if oks L then ifold L else []).length < 2 ^ 40 := by
    split
    · have := ffold_len facts0 L
      unfold ifold; omega
    · simp
  simp (maxSteps := 10000000) (disch := first | assumption | ((try simp only [push_next, put_next, adv_next, List.length_cons, List.length_nil, List.length_map, List.length_set]); omega) | simp)
  refine GC_intro (opt_dead s1 hl) fun v h2 ⟨O2, K2⟩ => ?_
  simp (maxSteps := 10000000) (disch := first | assumption | ((try simp only [push_next, put_next, adv_next, List.length_cons, List.length_nil, List.length_map, List.length_set]); omega) | simp)
  obtain ⟨fp, O2, hfp⟩ := O2
  refine ⟨⟨fp, ?_, fun b hb => by have := hfp b hb; have := K1.le; omega⟩, K1.trans K2⟩
  by_cases hok : oks L
  · rw [if_pos hok] at O2 ⊢
    rw [if_pos (ifold_oks hok)] at O2
    exact O2
  · rw [if_neg hok] at O2 ⊢
    have ok0 : oks [] := fun o ho => (by cases ho)
    rw [if_pos ok0] at O2
    exact O2
end
end Go.Proofs.Ytjobkhnanbkcjaa.Cd

/- Are two rows the same? -/
set_option maxRecDepth 1000000
set_option linter.unusedSimpArgs false
set_option linter.unusedVariables false
namespace Go.Proofs.Ytjobkhnanbkcjaa.Cd
open Go Go.Dx
theorem eq_op (x y : IOp) : eqV (.agg [(0, 1, false, (.int .i64)), (1, 1, false, (.int .i64)), (2, 1, false, (.int .i64)), (3, 1, false, (.int .i64)), (4, 1, false, (.int .u32))]) (.agg (encOp.enc x).toArray) (.agg (encOp.enc y).toArray) = some (decide (x = y)) := by
  obtain ⟨k, d, a, b, i⟩ := x
  obtain ⟨k', d', a', b', i'⟩ := y
  simp only [eqV, eqAt, encOp, eqParts]
  by_cases h1 : k = k'
  · by_cases h2 : d = d'
    · by_cases h3 : a = a'
      · by_cases h4 : b = b'
        · by_cases h5 : i = i'
          · simp [h1, h2, h3, h4, h5, u32]
          · have h6 : ¬ (i.toNat : Int) = (i'.toNat : Int) := fun hh => h5 (BitVec.eq_of_toNat_eq (by omega))
            simp [h1, h2, h3, h4, h5, u32, h6]
        · simp [h1, h2, h3, h4]
      · simp [h1, h2, h3]
    · simp [h1, h2]
  · simp [h1]
theorem same_op {h : Hp} {q : Value → Hp → Prop} {a a' : Option Addr} {c c' : Nat} {xs ys : List IOp} (hx : Sees encOp h a xs) (hy : Sees encOp h a' ys) (hb : xs.length < 2 ^ 40) (hq : q (.bool (decide (xs = ys))) h) : WC T n_pianolabook_Same_ir_Op [.slice a xs.length c, .slice a' ys.length c'] h q := by
  rw [w_pianolabook_Same_ir_Op]
  by_cases hl : xs.length = ys.length
  case neg =>
    have hne : xs ≠ ys := fun e => hl (by rw [e])
    have hl' : ¬ ((xs.length : Int) = ys.length) := by omega
    simp (maxSteps := 10000000) (disch := first | assumption | ((try simp only [push_next, put_next, adv_next, List.length_cons, List.length_nil, List.length_map, List.length_set]); omega) | simp) [hl']
    simpa [hne] using hq
  simp (maxSteps := 10000000) (disch := first | assumption | ((try simp only [push_next, put_next, adv_next, List.length_cons, List.length_nil, List.length_map, List.length_set]); omega) | simp) [hl]
  refine G_loop (fun n e h' => ∃ us vs ws, n = vs.length ∧ h' = h ∧ xs = us ++ vs ∧ ys = us ++ ws ∧ e 0 = .slice a xs.length c ∧ e 1 = .slice a' ys.length c' ∧ e 5 = .int .i64 us.length) ?_ xs.length _ _ ⟨[], xs, ys, rfl, rfl, rfl, rfl, by simp [hl], by simp, by simp⟩
  rintro n ih e h' ⟨us, vs, ws, rfl, rfl, h1, h2, e0, e1, e5⟩
  cases vs with
  | nil =>
    have hw : ws = [] := by
      have h3 := hl
      rw [h1, h2] at h3
      simpa using h3
    subst hw
    have hxs : xs = us := by simpa using h1
    have hxy : xs = ys := by rw [h1, h2]
    have hll : us.length = xs.length := by rw [hxs]
    simp (maxSteps := 10000000) (disch := first | assumption | ((try simp only [push_next, put_next, adv_next, List.length_cons, List.length_nil, List.length_map, List.length_set]); omega) | simp) [e0, e5, hll]
    simpa [hxy] using hq
  | cons x vs =>
    cases ws with
    | nil =>
      have h3 := hl
      rw [h1, h2] at h3
      simp at h3
    | cons y ws =>
      have hlt : (us.length : Int) < xs.length := by rw [h1]; simp; omega
      have hlt' : (us.length : Int) < ys.length := by omega
      obtain ⟨A, hA, hr⟩ := Sees.mid (A := us) (x := x) (B := vs) (by rw [← h1]; exact hx)
      obtain ⟨A', hA', hr'⟩ := Sees.mid (A := us) (x := y) (B := ws) (by rw [← h2]; exact hy)
      have g1 : h'.rdn A.block (A.off + us.length * 5) 5 = some (encOp.enc x) := hr
      have g2 : h'.rdn A'.block (A'.off + us.length * 5) 5 = some (encOp.enc y) := hr'
      have he := eq_op x y
      by_cases hxy : x = y
      · simp [hxy] at he
        simp (maxSteps := 10000000) (disch := first | assumption | ((try simp only [push_next, put_next, adv_next, List.length_cons, List.length_nil, List.length_map, List.length_set]); omega) | simp) [e0, e1, e5, hlt, hlt', hA, hA', g1, g2, he, hxy]
        apply ih vs.length (by simp)
        refine ⟨us ++ [x], vs, ws, rfl, rfl, by simp [h1], by simp [h2, hxy], by simp [e0, hA], by simp [e1, hA'], by simp⟩
      · simp [hxy] at he
        have hne : xs ≠ ys := fun e => by rw [h1, h2] at e; simp [hxy] at e
        simp (maxSteps := 10000000) (disch := first | assumption | ((try simp only [push_next, put_next, adv_next, List.length_cons, List.length_nil, List.length_map, List.length_set]); omega) | simp) [e0, e1, e5, hlt, hlt', hA, hA', g1, g2, he]
        simpa [hne] using hq
end Go.Proofs.Ytjobkhnanbkcjaa.Cd

/- Operations that are right, as the laws make them. -/
set_option maxRecDepth 1000000
set_option maxHeartbeats 8000000
set_option linter.unusedSimpArgs false
set_option linter.unusedVariables false
namespace Go.Proofs.Ytjobkhnanbkcjaa.Cd
open Go Go.Dx
section
variable {h : Hp} {q : Value → Hp → Prop} {b c c' : Nat} {o : IOp} {a a' : Option Addr} {L : List IOp}
theorem wth {n : Int} : WC T n_pianolabook_Within [.int .i64 n, .int .i64 0, .int .i64 1048576] h q ↔ q (.int .i64 (wi n 0 1048576)) h := within_eq (by omega) (by omega) (by omega)
theorem cell_of {n : Int} : WC T n_pianolalaw18_cell [.int .i64 n] h fun v h' => (∃ m, v = .int .i64 m ∧ 0 ≤ m ∧ m < 40) ∧ Kp h h' := by
  rw [w_pianolalaw18_cell]
  obtain ⟨b0, b1⟩ := wi_bound (n := n) (lo := 0) (hi := 1048576) (by omega)
  simp (maxSteps := 10000000) (disch := first | assumption | ((try simp only [push_next, put_next, adv_next, List.length_cons, List.length_nil, List.length_map, List.length_set]); omega) | simp) [GC_of (fun q => wth)]
  generalize wi n 0 1048576 = m at b0 b1
  obtain ⟨k, rfl⟩ := Int.eq_ofNat_of_zero_le b0
  have e3 : (k : Int).tmod 3 = ((k % 3 : Nat) : Int) := by rw [Int.tmod_eq_emod_of_nonneg (by omega)]; rfl
  have q3 : (k : Int).tdiv 3 = ((k / 3 : Nat) : Int) := by rw [Int.tdiv_eq_ediv_of_nonneg (by omega)]; rfl
  have w3 : IntKind.i64.wrap ((k / 3 : Nat) : Int) = ((k / 3 : Nat) : Int) := wrap_i64 (by omega) (by omega)
  have e40 : ((k / 3 : Nat) : Int).tmod 40 = ((k / 3 % 40 : Nat) : Int) := by rw [Int.tmod_eq_emod_of_nonneg (by omega)]; rfl
  have e8 : ((k / 3 : Nat) : Int).tmod 8 = ((k / 3 % 8 : Nat) : Int) := by rw [Int.tmod_eq_emod_of_nonneg (by omega)]; rfl
  by_cases hz : k % 3 = 0
  · have hz' : ((k % 3 : Nat) : Int) = 0 := by omega
    simp only [hz'] at e3
    simp (maxSteps := 10000000) (disch := first | assumption | ((try simp only [push_next, put_next, adv_next, List.length_cons, List.length_nil, List.length_map, List.length_set]); omega) | simp) [e3, q3, w3, e40, -Int.natCast_emod, -Int.natCast_ediv, -wrap_i64]
    exact ⟨by omega, .refl _⟩
  · have hz' : ¬ ((k % 3 : Nat) : Int) = 0 := by omega
    have ix : k / 3 % 8 = 0 ∨ k / 3 % 8 = 1 ∨ k / 3 % 8 = 2 ∨ k / 3 % 8 = 3 ∨ k / 3 % 8 = 4 ∨ k / 3 % 8 = 5 ∨ k / 3 % 8 = 6 ∨ k / 3 % 8 = 7 := by omega
    rcases ix with ix | ix | ix | ix | ix | ix | ix | ix <;>
    · rw [ix] at e8
      simp (maxSteps := 10000000) (disch := first | assumption | ((try simp only [push_next, put_next, adv_next, List.length_cons, List.length_nil, List.length_map, List.length_set]); omega) | simp) [e3, hz, hz', q3, w3, e8, -Int.natCast_emod, -Int.natCast_ediv, -wrap_i64]
      exact (Kp.refl h).push _
theorem near_of {n : Nat} (hs : Sees encOp h a L) (hb : L.length < 2 ^ 63) (hn : n ≤ 40) : WC T n_pianolalaw18_near [.slice a L.length c, .int .i64 n] h fun v h' => ∃ X fp, Own encOp h' v X fp ∧ oks X ∧ X.length = min n L.length ∧ (∀ b ∈ fp, h.next ≤ b) ∧ Kp h h' := by
  rw [w_pianolalaw18_near]
  simp (maxSteps := 10000000) (disch := first | assumption | ((try simp only [push_next, put_next, adv_next, List.length_cons, List.length_nil, List.length_map, List.length_set]); omega) | simp)
  refine G_loop (fun m e h' => ∃ X fp, m = n - X.length ∧ Own encOp h' (e 5) X fp ∧ oks X ∧ X.length ≤ n ∧ X.length ≤ L.length ∧ (∀ b ∈ fp, h.next ≤ b) ∧ Kp h h' ∧ e 0 = .slice a L.length c ∧ e 1 = .int .i64 n ∧ e 6 = .int .i64 X.length) ?_ n _ _ ⟨[], [], rfl, by simp; exact .nul, fun o ho => (by cases ho), by simp, by simp, by simp, .refl _, by simp, by simp, by simp⟩
  rintro m ih e h' ⟨X, fp, rfl, O, hok, hX, hXL, hfp, K, e0, e1, e6⟩
  by_cases h1 : X.length < L.length
  case neg =>
    have h1' : ¬ ((X.length : Int) < L.length) := by omega
    simp (maxSteps := 10000000) (disch := first | assumption | ((try simp only [push_next, put_next, adv_next, List.length_cons, List.length_nil, List.length_map, List.length_set]); omega) | simp) [e0, e1, e6, h1, h1']
    exact ⟨X, fp, O, hok, by omega, hfp, K⟩
  have h1' : (X.length : Int) < L.length := by omega
  by_cases h2 : X.length < n
  case neg =>
    have h2' : ¬ ((X.length : Int) < n) := by omega
    simp (maxSteps := 10000000) (disch := first | assumption | ((try simp only [push_next, put_next, adv_next, List.length_cons, List.length_nil, List.length_map, List.length_set]); omega) | simp) [e0, e1, e6, h1, h1', h2, h2']
    exact ⟨X, fp, O, hok, by omega, hfp, K⟩
  have h2' : (X.length : Int) < n := by omega
  obtain ⟨A, rfl, hr⟩ := (hs.kp K).at' X.length h1
  generalize L[X.length] = o at hr
  have hr' : h'.rdn A.block (A.off + X.length * 5) 5 = some [.int .i64 o.k, .int .i64 o.d, .int .i64 o.a, .int .i64 o.b, u32 o.imm] := hr
  obtain ⟨b0, b1⟩ := wi_bound (n := o.k) (lo := 0) (hi := 1048576) (by omega)
  simp (maxSteps := 10000000) (disch := first | assumption | ((try simp only [push_next, put_next, adv_next, List.length_cons, List.length_nil, List.length_map, List.length_set]); omega) | simp) [e0, e1, e6, h1, h1', h2, h2', hr', GCI_of (fun q => wth)]
  generalize hH : h'.push (.cells false [.int .i64 o.k, .int .i64 o.d, .int .i64 o.a, .int .i64 o.b, u32 o.imm]) = H
  have y : H.get h'.next = some (.cells false [.int .i64 o.k, .int .i64 o.d, .int .i64 o.a, .int .i64 o.b, u32 o.imm]) := by rw [← hH, get_push_self]
  have KH : Kp h' H := by rw [← hH]; exact (Kp.refl h').push _
  refine GCI_intro cell_of fun v h3 ⟨⟨m1, hv, m1l, m1h⟩, K3⟩ => ?_
  subst hv
  have y3 : h3.get h'.next = _ := (K3.get _ (lt_of_get y)).trans y
  simp (maxSteps := 10000000) (disch := first | assumption | ((try simp only [push_next, put_next, adv_next, List.length_cons, List.length_nil, List.length_map, List.length_set]); omega) | simp) [y3]
  refine GCI_intro cell_of fun v h4 ⟨⟨m2, hv, m2l, m2h⟩, K4⟩ => ?_
  subst hv
  have y4 : h4.get h'.next = _ := (K4.get _ (lt_of_get y3)).trans y3
  simp (maxSteps := 10000000) (disch := first | assumption | ((try simp only [push_next, put_next, adv_next, List.length_cons, List.length_nil, List.length_map, List.length_set]); omega) | simp) [y4]
  refine GCI_intro cell_of fun v h5 ⟨⟨m3, hv, m3l, m3h⟩, K5⟩ => ?_
  subst hv
  have y5 : h5.get h'.next = _ := (K5.get _ (lt_of_get y4)).trans y4
  have l5 := lt_of_get y5
  have kr : 0 ≤ (wi o.k 0 1048576).tmod 23 ∧ (wi o.k 0 1048576).tmod 23 ≤ 22 := by
    rw [Int.tmod_eq_emod_of_nonneg b0]; omega
  simp (maxSteps := 10000000) (disch := first | assumption | ((try simp only [push_next, put_next, adv_next, List.length_cons, List.length_nil, List.length_map, List.length_set]); omega) | simp) [y5, Hp.rdn, e0, e1, e6]
  generalize hk : (wi o.k 0 1048576).tmod 23 = kk at kr
  generalize hH6 : h5.put h'.next (some (.cells false [.int .i64 kk, .int .i64 m1, .int .i64 m2, .int .i64 m3, u32 o.imm])) = H6
  have K6 : Kp h' H6 := by rw [← hH6]; exact (((KH.trans K3).trans K4).trans K5).put (Nat.le_refl _) _
  have n6 : h5.next = H6.next := by rw [← hH6]; rfl
  rw [n6]
  have O6 : Own encOp H6 (e 5) X fp := O.kp K6
  refine GV_app1 (E := encOp) (bytes := 40) (x := ⟨kk, m1, m2, m3, o.imm⟩) O6 (by omega) (by omega) fun v' h7 fp' O' U => ?_
  simp (maxSteps := 10000000) (disch := first | assumption | ((try simp only [push_next, put_next, adv_next, List.length_cons, List.length_nil, List.length_map, List.length_set]); omega) | simp) [e6]
  refine ih (n - (X.length + 1)) (by omega) _ _ ⟨X ++ [⟨kk, m1, m2, m3, o.imm⟩], fp', by simp, by simpa using O', ?_, by simp; omega, by simp; omega, fun b hb => ?_, U.kp' (K.trans K6) hfp, by simp [e0], by simp [e1], by simp⟩
  · intro x hx
    rcases List.mem_append.1 hx with hx | hx
    · exact hok x hx
    · simp at hx
      subst hx
      exact ⟨⟨m1l, m1h⟩, ⟨m2l, m2h⟩, ⟨m3l, m3h⟩, kr.1, kr.2⟩
  · rcases U.sub b hb with hb | hb
    · exact hfp b hb
    · exact Nat.le_trans (K.trans K6).le hb
end
end Go.Proofs.Ytjobkhnanbkcjaa.Cd

/- Shorter rows: what the laws' own functions do. -/
set_option maxRecDepth 1000000
set_option maxHeartbeats 8000000
set_option linter.unusedSimpArgs false
set_option linter.unusedVariables false
namespace Go.Proofs.Ytjobkhnanbkcjaa.Cd
open Go Go.Dx
section
variable {h : Hp} {q : Value → Hp → Prop} {b c c' : Nat} {o p : IOp} {R : Regs} {a a' : Option Addr} {l : List (BitVec 32)} {L A B : List IOp} {f : Facts}
theorem cell20 {n : Int} : WC T n_pianolalaw20_cell [.int .i64 n] h fun v h' => (∃ m, v = .int .i64 m ∧ 0 ≤ m ∧ m < 40) ∧ Kp h h' := by
  rw [w_pianolalaw20_cell]
  obtain ⟨b0, b1⟩ := wi_bound (n := n) (lo := 0) (hi := 1048576) (by omega)
  simp (maxSteps := 10000000) (disch := first | assumption | ((try simp only [push_next, put_next, adv_next, List.length_cons, List.length_nil, List.length_map, List.length_set]); omega) | simp) [GC_of (fun q => wth)]
  generalize wi n 0 1048576 = m at b0 b1
  obtain ⟨k, rfl⟩ := Int.eq_ofNat_of_zero_le b0
  have e10 : (k : Int).tmod 10 = ((k % 10 : Nat) : Int) := by rw [Int.tmod_eq_emod_of_nonneg (by omega)]; rfl
  have ix : k % 10 = 0 ∨ k % 10 = 1 ∨ k % 10 = 2 ∨ k % 10 = 3 ∨ k % 10 = 4 ∨ k % 10 = 5 ∨ k % 10 = 6 ∨ k % 10 = 7 ∨ k % 10 = 8 ∨ k % 10 = 9 := by omega
  rcases ix with ix | ix | ix | ix | ix | ix | ix | ix | ix | ix <;>
  · rw [ix] at e10
    simp (maxSteps := 10000000) (disch := first | assumption | ((try simp only [push_next, put_next, adv_next, List.length_cons, List.length_nil, List.length_map, List.length_set]); omega) | simp) [e10]
    exact (Kp.refl h).push _
theorem near20 {n : Nat} (hs : Sees encOp h a L) (hb : L.length < 2 ^ 63) (hn : n ≤ 40) : WC T n_pianolalaw20_near [.slice a L.length c, .int .i64 n] h fun v h' => ∃ X fp, Own encOp h' v X fp ∧ oks X ∧ X.length = min n L.length ∧ (∀ b ∈ fp, h.next ≤ b) ∧ Kp h h' := by
  rw [w_pianolalaw20_near]
  simp (maxSteps := 10000000) (disch := first | assumption | ((try simp only [push_next, put_next, adv_next, List.length_cons, List.length_nil, List.length_map, List.length_set]); omega) | simp)
  refine G_loop (fun m e h' => ∃ X fp, m = n - X.length ∧ Own encOp h' (e 5) X fp ∧ oks X ∧ X.length ≤ n ∧ X.length ≤ L.length ∧ (∀ b ∈ fp, h.next ≤ b) ∧ Kp h h' ∧ e 0 = .slice a L.length c ∧ e 1 = .int .i64 n ∧ e 6 = .int .i64 X.length) ?_ n _ _ ⟨[], [], rfl, by simp; exact .nul, fun o ho => (by cases ho), by simp, by simp, by simp, .refl _, by simp, by simp, by simp⟩
  rintro m ih e h' ⟨X, fp, rfl, O, hok, hX, hXL, hfp, K, e0, e1, e6⟩
  by_cases h1 : X.length < L.length
  case neg =>
    have h1' : ¬ ((X.length : Int) < L.length) := by omega
    simp (maxSteps := 10000000) (disch := first | assumption | ((try simp only [push_next, put_next, adv_next, List.length_cons, List.length_nil, List.length_map, List.length_set]); omega) | simp) [e0, e1, e6, h1, h1']
    exact ⟨X, fp, O, hok, by omega, hfp, K⟩
  have h1' : (X.length : Int) < L.length := by omega
  by_cases h2 : X.length < n
  case neg =>
    have h2' : ¬ ((X.length : Int) < n) := by omega
    simp (maxSteps := 10000000) (disch := first | assumption | ((try simp only [push_next, put_next, adv_next, List.length_cons, List.length_nil, List.length_map, List.length_set]); omega) | simp) [e0, e1, e6, h1, h1', h2, h2']
    exact ⟨X, fp, O, hok, by omega, hfp, K⟩
  have h2' : (X.length : Int) < n := by omega
  obtain ⟨A, rfl, hr⟩ := (hs.kp K).at' X.length h1
  generalize L[X.length] = o at hr
  have hr' : h'.rdn A.block (A.off + X.length * 5) 5 = some [.int .i64 o.k, .int .i64 o.d, .int .i64 o.a, .int .i64 o.b, u32 o.imm] := hr
  obtain ⟨b0, b1⟩ := wi_bound (n := o.k) (lo := 0) (hi := 1048576) (by omega)
  simp (maxSteps := 10000000) (disch := first | assumption | ((try simp only [push_next, put_next, adv_next, List.length_cons, List.length_nil, List.length_map, List.length_set]); omega) | simp) [e0, e1, e6, h1, h1', h2, h2', hr', GC_of (fun q => wth)]
  generalize hH : h'.push (.cells false [.int .i64 o.k, .int .i64 o.d, .int .i64 o.a, .int .i64 o.b, u32 o.imm]) = H
  have y : H.get h'.next = some (.cells false [.int .i64 o.k, .int .i64 o.d, .int .i64 o.a, .int .i64 o.b, u32 o.imm]) := by rw [← hH, get_push_self]
  have KH : Kp h' H := by rw [← hH]; exact (Kp.refl h').push _
  refine GCI_intro cell20 fun v h3 ⟨⟨m1, hv, m1l, m1h⟩, K3⟩ => ?_
  subst hv
  have y3 : h3.get h'.next = _ := (K3.get _ (lt_of_get y)).trans y
  simp (maxSteps := 10000000) (disch := first | assumption | ((try simp only [push_next, put_next, adv_next, List.length_cons, List.length_nil, List.length_map, List.length_set]); omega) | simp) [y3]
  refine GCI_intro cell20 fun v h4 ⟨⟨m2, hv, m2l, m2h⟩, K4⟩ => ?_
  subst hv
  have y4 : h4.get h'.next = _ := (K4.get _ (lt_of_get y3)).trans y3
  simp (maxSteps := 10000000) (disch := first | assumption | ((try simp only [push_next, put_next, adv_next, List.length_cons, List.length_nil, List.length_map, List.length_set]); omega) | simp) [y4]
  refine GCI_intro cell20 fun v h5 ⟨⟨m3, hv, m3l, m3h⟩, K5⟩ => ?_
  subst hv
  have y5 : h5.get h'.next = _ := (K5.get _ (lt_of_get y4)).trans y4
  have l5 := lt_of_get y5
  have kr : 0 ≤ (wi o.k 0 1048576).tmod 23 ∧ (wi o.k 0 1048576).tmod 23 ≤ 22 := by
    rw [Int.tmod_eq_emod_of_nonneg b0]; omega
  have fin : ∀ (kk : Int) (v' : Value) (h7 : Hp) (fp' : List Nat) (e' : Env), 0 ≤ kk → kk ≤ 22 → Own encOp h7 v' (X ++ [⟨kk, m1, m2, m3, o.imm⟩]) fp' → (∀ b ∈ fp', h.next ≤ b) → Kp h h7 → e' 5 = v' → e' 0 = e 0 → e' 1 = e 1 → e' 6 = .int .i64 ((X.length : Int) + 1) →
      G T (fin [RV.t 4] (some []) h.next fun v h' => ∃ X fp, Own encOp h' v X fp ∧ oks X ∧ X.length = min n L.length ∧ (∀ b ∈ fp, h.next ≤ b) ∧ Kp h h') (.loop c3_pianolalaw20_near) [Fr.block 0, Fr.seq (C.seq (.ops [⟨some 50, none, .mov (.t 5)⟩, ⟨some 4, none, .mov (.t 50)⟩]) .ret)] e' h7 := by
    intro kk v' h7 fp' e' k0 k1 O' hfp' K7 f5 f0 f1 f6
    refine ih (n - (X.length + 1)) (by omega) _ _ ⟨X ++ [⟨kk, m1, m2, m3, o.imm⟩], fp', by simp, by rw [f5]; exact O', ?_, by simp; omega, by simp; omega, hfp', K7, by rw [f0, e0], by rw [f1, e1], by rw [f6]; simp⟩
    intro x hx
    rcases List.mem_append.1 hx with hx | hx
    · exact hok x hx
    · simp at hx
      subst hx
      exact ⟨⟨m1l, m1h⟩, ⟨m2l, m2h⟩, ⟨m3l, m3h⟩, k0, k1⟩
  by_cases h5k : (wi o.k 0 1048576).tmod 5 = 0
  · simp (maxSteps := 10000000) (disch := first | assumption | ((try simp only [push_next, put_next, adv_next, List.length_cons, List.length_nil, List.length_map, List.length_set]); omega) | simp) [y5, Hp.rdn, e0, e1, e6, h5k]
    generalize hH6 : h5.put h'.next (some (.cells false [.int .i64 1, .int .i64 m1, .int .i64 m2, .int .i64 m3, u32 o.imm])) = H6
    have K6 : Kp h' H6 := by rw [← hH6]; exact (((KH.trans K3).trans K4).trans K5).put (Nat.le_refl _) _
    have n6 : h5.next = H6.next := by rw [← hH6]; rfl
    rw [n6]
    have O6 : Own encOp H6 (e 5) X fp := O.kp K6
    refine GV_app1 (E := encOp) (bytes := 40) (x := ⟨1, m1, m2, m3, o.imm⟩) O6 (by omega) (by omega) fun v' h7 fp' O' U => ?_
    simp (maxSteps := 10000000) (disch := first | assumption | ((try simp only [push_next, put_next, adv_next, List.length_cons, List.length_nil, List.length_map, List.length_set]); omega) | simp) [e6]
    refine fin 1 v' h7 fp' _ (by omega) (by omega) O' (fun b hb => ?_) (U.kp' (K.trans K6) hfp) (by simp) (by simp) (by simp) (by simp)
    rcases U.sub b hb with hb | hb
    · exact hfp b hb
    · exact Nat.le_trans (K.trans K6).le hb
  · simp (maxSteps := 10000000) (disch := first | assumption | ((try simp only [push_next, put_next, adv_next, List.length_cons, List.length_nil, List.length_map, List.length_set]); omega) | simp) [y5, Hp.rdn, e0, e1, e6, h5k]
    generalize hk : (wi o.k 0 1048576).tmod 23 = kk at kr
    generalize hH6 : h5.put h'.next (some (.cells false [.int .i64 kk, .int .i64 m1, .int .i64 m2, .int .i64 m3, u32 o.imm])) = H6
    have K6 : Kp h' H6 := by rw [← hH6]; exact (((KH.trans K3).trans K4).trans K5).put (Nat.le_refl _) _
    have n6 : h5.next = H6.next := by rw [← hH6]; rfl
    rw [n6]
    have O6 : Own encOp H6 (e 5) X fp := O.kp K6
    refine GV_app1 (E := encOp) (bytes := 40) (x := ⟨kk, m1, m2, m3, o.imm⟩) O6 (by omega) (by omega) fun v' h7 fp' O' U => ?_
    simp (maxSteps := 10000000) (disch := first | assumption | ((try simp only [push_next, put_next, adv_next, List.length_cons, List.length_nil, List.length_map, List.length_set]); omega) | simp) [e6]
    refine fin kk v' h7 fp' _ kr.1 kr.2 O' (fun b hb => ?_) (U.kp' (K.trans K6) hfp) (by simp) (by simp) (by simp) (by simp)
    rcases U.sub b hb with hb | hb
    · exact hfp b hb
    · exact Nat.le_trans (K.trans K6).le hb
end
end Go.Proofs.Ytjobkhnanbkcjaa.Cd

/- Shorter rows: as good, alive, known. -/
set_option maxRecDepth 1000000
set_option maxHeartbeats 8000000
set_option linter.unusedSimpArgs false
set_option linter.unusedVariables false
namespace Go.Proofs.Ytjobkhnanbkcjaa.Cd
open Go Go.Dx
section
variable {h : Hp} {q : Value → Hp → Prop} {b c c' c'' : Nat} {o p : IOp} {R : Regs} {a a' a'' : Option Addr} {l : List (BitVec 32)} {L A B D : List IOp} {f : Facts}
def LeavesR (h h' : Hp) (l : List (BitVec 32)) (L : List IOp) (v : Value) : Prop :=
  ∃ b, v = .tuple #[.slice (some ⟨b, 0, none⟩) 34 40, .bool (decide (oks L))] ∧ h'.get b = some (.cells false ((if oks L then irun (rgs l) L else rgs l).map u32)) ∧ h.next ≤ b
theorem leaves20 (hs : Sees encW h a l) (hb : l.length < 2 ^ 63) (hL : Sees encOp h a' L) (hb' : L.length < 2 ^ 63) : WC T n_pianolalaw20_leaves [.slice a l.length c, .slice a' L.length c'] h fun v h' => LeavesR h h' l L v ∧ Kp h h' := by
  rw [w_pianolalaw20_leaves]
  simp (maxSteps := 10000000) (disch := first | assumption | ((try simp only [push_next, put_next, adv_next, List.length_cons, List.length_nil, List.length_map, List.length_set]); omega) | simp) [-List.reduceReplicate, makeS]
  have z1 : List.replicate 40 (u32 0#32) = (rgsj l 1).map u32 := by rw [rgsj_one, List.map_replicate]
  have hLa : ∀ A, a' = some A → A.block < h.next := fun A hA => lt_of_rdn (hL.get A hA)
  refine G_loop (fun n e h' => ∃ j : Nat, n = 40 - j ∧ 1 ≤ j ∧ j ≤ 40 ∧ Kp h h' ∧ h'.get h.next = some (.cells false ((rgsj l j).map u32)) ∧ e 0 = .slice a l.length c ∧ e 1 = .slice a' L.length c' ∧ e 6 = .slice (some ⟨h.next, 0, none⟩) 40 40 ∧ e 7 = .int .i64 j) ?_ 39 _ _ ⟨1, rfl, by omega, by omega, (Kp.refl h).push _, ?_, by simp, by simp, by simp, by simp⟩
  case refine_2 => rw [get_push_self, ← z1]
  rintro n ih e h' ⟨j, rfl, h1, hj, K, g0, e0, e1, e6, e7⟩
  have hlt := lt_of_get g0
  have out : rgsj l j = rgs l → WC T n_pianolaref18_Run [.slice (some ⟨h.next, 0, none⟩) 40 40, .slice a' L.length c'] h' fun v h2 => v = .bool (decide (oks L)) ∧ h2.get h.next = some (.cells false ((if oks L then irun (rgs l) L else rgs l).map u32)) ∧ Upd h' h2 [h.next] [h.next] := by
    intro hr
    rw [hr] at g0
    exact ref_run (q := fun v h2 => v = .bool (decide (oks L)) ∧ h2.get h.next = some (.cells false ((if oks L then irun (rgs l) L else rgs l).map u32)) ∧ Upd h' h2 [h.next] [h.next]) (rgs_length l) g0 (hL.kp K) (fun A hh => by have := hLa A hh; omega) hb' fun h2 g2 u2 => ⟨rfl, g2, u2⟩
  by_cases h40 : j = 40
  · subst h40
    simp (maxSteps := 10000000) (disch := first | assumption | ((try simp only [push_next, put_next, adv_next, List.length_cons, List.length_nil, List.length_map, List.length_set]); omega) | simp) [e0, e1, e6, e7]
    refine GC_intro (out rfl) fun v h2 ⟨hv, g2, u2⟩ => ?_
    subst hv
    simp (maxSteps := 10000000) (disch := first | assumption | ((try simp only [push_next, put_next, adv_next, List.length_cons, List.length_nil, List.length_map, List.length_set]); omega) | simp) [e6, sliceV, bounds, asN]
    exact ⟨⟨h.next, rfl, g2, Nat.le_refl _⟩, kp_upd K u2 (Nat.le_refl _)⟩
  have hj2 : (j : Int) < 40 := by omega
  have hj3 : j ≤ 39 := by omega
  by_cases hl : j < l.length
  case neg =>
    have hl' : ¬ ((j : Int) < l.length) := by omega
    simp (maxSteps := 10000000) (disch := first | assumption | ((try simp only [push_next, put_next, adv_next, List.length_cons, List.length_nil, List.length_map, List.length_set]); omega) | simp) [e0, e1, e6, e7, hj2, hl, hl']
    refine GC_intro (out (rgsj_end (by omega))) fun v h2 ⟨hv, g2, u2⟩ => ?_
    subst hv
    simp (maxSteps := 10000000) (disch := first | assumption | ((try simp only [push_next, put_next, adv_next, List.length_cons, List.length_nil, List.length_map, List.length_set]); omega) | simp) [e6, sliceV, bounds, asN]
    exact ⟨⟨h.next, rfl, g2, Nat.le_refl _⟩, kp_upd K u2 (Nat.le_refl _)⟩
  have hl' : (j : Int) < l.length := by omega
  obtain ⟨us, x, vs, hx, hu⟩ : ∃ us x vs, l = us ++ x :: vs ∧ us.length = j := ⟨l.take j, l[j], l.drop (j + 1), by simp, by simp; omega⟩
  obtain ⟨A, ro, C, rfl, k1, k2⟩ := Sees.cell (f := u32) (fun _ => rfl) rfl (us := us) (x := x) (vs := vs) (by rw [← hx]; exact hs.kp K)
  rw [hu] at k2
  have hxj : l[j]? = some x := by rw [hx, ← hu]; simp
  have o1 := fun (l : List Value) n v => over_set (l := l) (i := n) (v := v)
  simp (maxSteps := 10000000) (disch := first | assumption | ((try simp only [push_next, put_next, adv_next, List.length_cons, List.length_nil, List.length_map, List.length_set]); omega) | simp) [e0, e1, e6, e7, hj2, hj3, hl, hl', k1, k2, g0, -over, o1]
  refine ih (40 - (j + 1)) (by omega) _ _ ⟨j + 1, rfl, by omega, by omega, K.put (by omega) _, ?_, by simp [e0], by simp [e1], by simp [e6], by simp⟩
  rw [get_put_self hlt, ← rgsj_set h1 (by omega) hxj, List.map_set]
theorem sees_34 {X : Regs} (hX : X.length = 40) (hg : h.get b = some (.cells false (X.map u32))) : Sees encW h (some ⟨b, 0, none⟩) (X.take 34) := ⟨fun hA => (by cases hA), fun A hA => by
  cases hA
  simp only [Hp.rdn, Hp.cells, hg, Option.bind_some, Nat.zero_add, encW_sz, Nat.mul_one]
  rw [if_pos (by simp [hX]), encW_all, List.drop_zero]
  have : (X.take 34).length = 34 := by simp [hX]
  rw [this, List.map_take], fun A hA => (by cases hA; exact .inl rfl)⟩
theorem same20 (hs : Sees encW h a l) (hb : l.length < 2 ^ 63) (hA : Sees encOp h a' A) (hbA : A.length < 2 ^ 63) (hB : Sees encOp h a'' B) (hbB : B.length < 2 ^ 63) (okA : oks A) (okB : oks B) (hlen : B.length ≤ A.length) (hle : leaves (rgs l) A = leaves (rgs l) B) :
    WC T n_pianolalaw20_same [.slice a l.length c, .slice a' A.length c', .slice a'' B.length c''] h fun v h' => v = .bool true ∧ Kp h h' := by
  rw [w_pianolalaw20_same]
  simp (maxSteps := 10000000) (disch := first | assumption | ((try simp only [push_next, put_next, adv_next, List.length_cons, List.length_nil, List.length_map, List.length_set]); omega) | simp)
  refine GC_intro (leaves20 hs hb hA hbA) fun v h1 ⟨⟨b1, hv, g1, n1⟩, K1⟩ => ?_
  subst hv
  simp (maxSteps := 10000000) (disch := first | assumption | ((try simp only [push_next, put_next, adv_next, List.length_cons, List.length_nil, List.length_map, List.length_set]); omega) | simp) [okA]
  refine GC_intro (leaves20 (hs.kp K1) hb (hB.kp K1) hbB) fun v h2 ⟨⟨b2, hv, g2, n2⟩, K2⟩ => ?_
  subst hv
  have hlen' : (B.length : Int) ≤ A.length := by omega
  have g1' := (K2.get _ (lt_of_get g1)).trans g1
  rw [if_pos okA] at g1'
  rw [if_pos okB] at g2
  have s1 := sees_34 (by simp) g1'
  have s2 := sees_34 (by simp) g2
  have l1 : ((irun (rgs l) A).take 34).length = 34 := by simp
  have l2 : ((irun (rgs l) B).take 34).length = 34 := by simp
  have same := fun q => same_u32 (q := q) (c := 40) (c' := 40) s1 s2 (by omega)
  rw [l1, l2] at same
  have hd : decide ((irun (rgs l) A).take 34 = (irun (rgs l) B).take 34) = true := decide_eq_true hle
  rw [hd] at same
  simp (maxSteps := 10000000) (disch := first | assumption | ((try simp only [push_next, put_next, adv_next, List.length_cons, List.length_nil, List.length_map, List.length_set]); omega) | simp) [okB, hlen', GC_of same]
  exact K1.trans K2
theorem ilive_app {us vs : List IOp} (h : ilive (us ++ vs) = true) : ilive vs = true := by
  induction us with
  | nil => exact h
  | cons o us ih => simp only [List.cons_append, ilive, Bool.and_eq_true] at h; exact ih h.2
def ask1 (j : Nat) : Live := fun c => decide (1 ≤ c ∧ c < (j : Int))
def aw1 (lv : Live) (ws : List Int) : Live := fun c => if c ∈ ws then false else lv c
def aw2 (lv : Live) (o : IOp) (xs : List Int) : Live := fun c => if c ∈ xs then true else if c ∈ iwrites o then false else lv c
theorem aw1_nil (lv : Live) : aw1 lv [] = lv := by funext c; simp [aw1]
theorem aw2_nil (lv : Live) (o : IOp) : aw2 lv o [] = aw1 lv (iwrites o) := by funext c; simp [aw1, aw2]
theorem aw2_all (lv : Live) (o : IOp) : aw2 lv o (ireads o) = astep o lv := rfl
theorem aw1_step (lv : Live) (ws : List Int) (z : Int) : (fun c => if c = z then false else aw1 lv ws c) = aw1 lv (ws ++ [z]) := by
  funext c
  simp only [aw1]
  by_cases hc : c = z
  · subst hc; simp
  · simp [hc]
theorem aw2_step (lv : Live) (o : IOp) (ws : List Int) (z : Int) : (fun c => if c = z then true else aw2 lv o ws c) = aw2 lv o (ws ++ [z]) := by
  funext c
  simp only [aw2]
  by_cases hc : c = z
  · subst hc; simp
  · simp [hc]
theorem not_bls {B : Addr} {ro : Bool} {C : List Value} {lv : Live} {i : Nat} {z : Int} {h : Hp} (k1 : h.get B.block = some (.cells ro C)) (k2 : C[i]? = some (.int .i64 z)) (g : h.get b = some (.cells false (bls lv))) : B.block ≠ b := fun hh => by
  rw [hh, g] at k1
  cases k1
  have : i < 40 := by
    apply Classical.byContradiction
    intro hge
    rw [List.getElem?_eq_none (by simp; omega)] at k2
    cases k2
  rw [bls_nat _ this] at k2
  cases k2
theorem live20 (hs : Sees encOp h a D) (hb : D.length < 2 ^ 63) (hl : ilive D = true) : WC T n_pianolalaw20_live [.slice a D.length c] h fun v h' => v = .bool true ∧ Kp h h' := by
  have hDa : ∀ A, a = some A → A.block < h.next := fun A hA => lt_of_rdn (hs.get A hA)
  rw [w_pianolalaw20_live]
  simp (maxSteps := 10000000) (disch := first | assumption | ((try simp only [push_next, put_next, adv_next, List.length_cons, List.length_nil, List.length_map, List.length_set]); omega) | simp) [-List.reduceReplicate]
  rw [← bls_false]
  have o1 := fun (l : List Value) n v => over_set (l := l) (i := n) (v := v)
  refine G_loop (fun n e h' => ∃ j : Nat, n = 34 - j ∧ 1 ≤ j ∧ j ≤ 34 ∧ Kp h h' ∧ h'.get h.next = some (.cells false (bls (ask1 j))) ∧ e 0 = .slice a D.length c ∧ e 3 = ptr h.next 0 ∧ e 4 = .int .i64 j) ?_ 33 _ _ ⟨1, rfl, by omega, by omega, (Kp.refl h).push _, ?_, by simp, by simp, by simp⟩
  case refine_2 => rw [get_push_self, bls_congr (a := fun _ => false) (b := ask1 1) fun c h0 h1 => by simp only [ask1]; symm; rw [decide_eq_false_iff_not]; omega]
  rintro n ih e h' ⟨j, rfl, h1, hj, K, g, e0, e3, e4⟩
  have lt := lt_of_get g
  by_cases h34 : j = 34
  case neg =>
    have hj2 : (j : Int) < 34 := by omega
    have hj3 : (j : Int) ≤ 39 := by omega
    have hj4 : j ≤ 39 := by omega
    simp (maxSteps := 10000000) (disch := first | assumption | ((try simp only [push_next, put_next, adv_next, List.length_cons, List.length_nil, List.length_map, List.length_set]); omega) | simp) [e0, e3, e4, hj2, hj3, hj4, g, -over, o1]
    refine ih (34 - (j + 1)) (by omega) _ _ ⟨j + 1, rfl, by omega, by omega, K.put (Nat.le_refl _) _, ?_, by simp [e0], by simp [e3], by simp⟩
    rw [get_put_self lt]
    have := bls_set (ask1 j) (i := j) true (by omega) (by omega)
    simp only [Int.toNat_natCast] at this
    rw [this]
    congr 2
    refine bls_congr fun c h0 h1 => ?_
    by_cases hc : c = j
    · subst hc; simp [ask1]; omega
    · simp only [hc, if_false, ask1]; rw [decide_eq_decide]; omega
  subst h34
  clear ih
  simp (maxSteps := 10000000) (disch := first | assumption | ((try simp only [push_next, put_next, adv_next, List.length_cons, List.length_nil, List.length_map, List.length_set]); omega) | simp) [e0, e3, e4]
  have g0 : h'.get h.next = some (.cells false (bls (asks []))) := g
  refine G_loop (fun n e h2 => ∃ us vs, n = us.length ∧ D = us ++ vs ∧ Kp h h2 ∧ h2.get h.next = some (.cells false (bls (asks vs))) ∧ e 0 = .slice a D.length c ∧ e 3 = ptr h.next 0 ∧ e 5 = .int .i64 ((us.length : Int) - 1)) ?_ D.length _ _ ⟨D, [], rfl, by simp, K, g0, by simp [e0], by simp [e3], by simp⟩
  clear K g g0 e0 e3 e4 hj lt h1
  rintro n ih e h' ⟨us, vs, rfl, hx, K, g, e0, e3, e5⟩
  have lt := lt_of_get g
  have hxl : D.length = us.length + vs.length := by rw [hx]; simp
  rcases List.eq_nil_or_concat us with rfl | ⟨us, o, rfl⟩
  · simp at e5
    simp (maxSteps := 10000000) (disch := first | assumption | ((try simp only [push_next, put_next, adv_next, List.length_cons, List.length_nil, List.length_map, List.length_set]); omega) | simp) [e0, e3, e5]
    exact K
  rw [List.concat_eq_append] at hx e5 hxl ih
  have hlen : us.length < D.length := by rw [hx]; simp
  have hlen' : (us.length : Int) < D.length := by omega
  have e5' : e 5 = .int .i64 us.length := by rw [e5]; simp
  have t0 : (0 : Int) ≤ us.length := by omega
  have hx' : D = us ++ o :: vs := by rw [hx]; simp
  have hla : lany o (asks vs) = true := by
    have := ilive_app (us := us) (vs := o :: vs) (by rw [← hx']; exact hl)
    simp only [ilive, Bool.and_eq_true] at this
    exact this.1
  obtain ⟨A, rfl, hr⟩ := Sees.mid (A := us) (x := o) (B := vs) (by rw [← hx']; exact hs)
  have hA := hDa A rfl
  have hr' : h'.rdn A.block (A.off + us.length * 5) 5 = some (encOp.enc o) := rdn_kp hr (K.get _ (lt_of_rdn hr))
  simp (maxSteps := 10000000) (disch := first | assumption | ((try simp only [push_next, put_next, adv_next, List.length_cons, List.length_nil, List.length_map, List.length_set]); omega) | simp) [e0, e3, e5', t0, hlen, hlen', hr']
  refine GC_intro (ref_writes (o := o)) fun v h2 ⟨hz, K2⟩ => ?_
  obtain ⟨aw, cw, rfl, sw⟩ := hz
  have g2 := (K2.get _ lt).trans g
  have hwb : ∀ n ∈ iwrites o, 0 ≤ n ∧ n < 40 := fun n hn => ⟨by have := iwrites_ne hn; omega, (iwrites_ne hn).2⟩
  have hwl := iwrites_len o
  simp (maxSteps := 10000000) (disch := first | assumption | ((try simp only [push_next, put_next, adv_next, List.length_cons, List.length_nil, List.length_map, List.length_set]); omega) | simp) []
  refine G_loop (fun n e' h4 => ∃ ws zs, n = zs.length ∧ iwrites o = ws ++ zs ∧ h4 = h2 ∧ e' 0 = .slice (some A) D.length c ∧ e' 3 = ptr h.next 0 ∧ e' 5 = .int .i64 us.length ∧ e' 6 = .slice aw (iwrites o).length cw ∧ e' 7 = .bool (ws.any (asks vs)) ∧ e' 32 = .slice aw (iwrites o).length cw ∧ e' 33 = .int .i64 (iwrites o).length ∧ e' 34 = .int .i64 ws.length) ?_ (iwrites o).length _ _ ⟨[], iwrites o, rfl, rfl, rfl, by simp [e0], by simp [e3], by simp [e5'], by simp, by simp, by simp, by simp, by simp⟩
  rintro n ih2 e' h4 ⟨ws, zs, rfl, hw, rfl, f0, f3, f5, f6, f7, f32, f33, f34⟩
  cases zs with
  | cons z zs =>
    obtain ⟨z0, z1⟩ := hwb z (by rw [hw]; simp)
    have z2 : z ≤ 39 := by omega
    have hll' : (ws.length : Int) < (iwrites o).length := by rw [hw]; simp; omega
    obtain ⟨B, ro, C, rfl, k1, k2⟩ := Sees.cell (f := fun n => Value.int .i64 n) (fun _ => rfl) rfl (us := ws) (x := z) (vs := zs) (by rw [← hw]; exact sw)
    have bz := bls_at (asks vs) z0 z1
    by_cases hany : ws.any (asks vs) = true
    · simp only [hany] at f7
      simp (maxSteps := 10000000) (disch := first | assumption | ((try simp only [push_next, put_next, adv_next, List.length_cons, List.length_nil, List.length_map, List.length_set]); omega) | simp) [f3, f6, f7, f32, f33, f34, hll', k1, k2, g2, bz, z2]
      refine ih2 zs.length (by simp) _ _ ⟨ws ++ [z], zs, rfl, by simp [hw], rfl, by simp [f0], by simp [f3], by simp [f5], by simp [f6], ?_, by simp [f32], by simp [f33], by simp⟩
      simp [List.any_append, hany]
    · have hany' : ws.any (asks vs) = false := by simpa using hany
      rw [hany'] at f7
      simp (maxSteps := 10000000) (disch := first | assumption | ((try simp only [push_next, put_next, adv_next, List.length_cons, List.length_nil, List.length_map, List.length_set]); omega) | simp) [f3, f6, f7, f32, f33, f34, hll', k1, k2, g2, bz, z2]
      refine ih2 zs.length (by simp) _ _ ⟨ws ++ [z], zs, rfl, by simp [hw], rfl, by simp [f0], by simp [f3], by simp [f5], by simp [f6], ?_, by simp [f32], by simp [f33], by simp⟩
      rw [List.any_append, hany']
      simp
  | nil =>
    have hws : iwrites o = ws := by simpa using hw
    have hll : ((iwrites o).length : Int) = ws.length := by rw [hws]
    have hany : ws.any (asks vs) = true := by rw [← hws]; exact hla
    rw [hany] at f7
    clear ih2
    simp (maxSteps := 10000000) (disch := first | assumption | ((try simp only [push_next, put_next, adv_next, List.length_cons, List.length_nil, List.length_map, List.length_set]); omega) | simp) [f3, f6, f7, f32, f33, f34, hll]
    refine G_loop (fun n e' h5 => ∃ ws zs, n = zs.length ∧ iwrites o = ws ++ zs ∧ Upd h4 h5 [h.next] [h.next] ∧ h5.get h.next = some (.cells false (bls (aw1 (asks vs) ws))) ∧ e' 0 = .slice (some A) D.length c ∧ e' 3 = ptr h.next 0 ∧ e' 5 = .int .i64 us.length ∧ e' 47 = .slice aw (iwrites o).length cw ∧ e' 48 = .int .i64 (iwrites o).length ∧ e' 49 = .int .i64 ws.length) ?_ (iwrites o).length _ _ ⟨[], iwrites o, rfl, rfl, .refl, by rw [aw1_nil]; exact g2, by simp [f0], by simp [f3], by simp [f5], by simp [f6, hll], by simp [hll], by simp⟩
    clear f0 f3 f5 f6 f7 f32 f33 f34 hws hll hany hw
    rintro n ih2 e' h5 ⟨ws, zs, rfl, hw, U5, g5, f0, f3, f5, f47, f48, f49⟩
    have lt5 := lt_of_get g5
    cases zs with
    | cons z zs =>
      obtain ⟨z0, z1⟩ := hwb z (by rw [hw]; simp)
      have z2 : z ≤ 39 := by omega
      have hll' : (ws.length : Int) < (iwrites o).length := by rw [hw]; simp; omega
      obtain ⟨B, ro, C, rfl, k1, k2⟩ := Sees.cell (f := fun n => Value.int .i64 n) (fun _ => rfl) rfl (us := ws) (x := z) (vs := zs) (by rw [← hw]; exact sw)
      have hB := not_bls k1 k2 g2
      have k1' : h5.get B.block = some (.cells ro C) := by rw [U5.get _ (lt_of_get k1) (by simpa using hB), k1]
      have hset := bls_set (aw1 (asks vs) ws) (i := z) false z0 z1
      rw [aw1_step] at hset
      simp (maxSteps := 10000000) (disch := first | assumption | ((try simp only [push_next, put_next, adv_next, List.length_cons, List.length_nil, List.length_map, List.length_set]); omega) | simp) [f3, f47, f48, f49, hll', k1', k2, g5, z2, -over, o1]
      refine ih2 zs.length (by simp) _ _ ⟨ws ++ [z], zs, rfl, by simp [hw], U5.put1, ?_, by simp [f0], by simp [f3], by simp [f5], by simp [f47], by simp [f48], by simp⟩
      rw [get_put_self lt5, hset]
    | nil =>
      have hws : iwrites o = ws := by simpa using hw
      have hll : ((iwrites o).length : Int) = ws.length := by rw [hws]
      clear ih2
      rw [← hws] at g5
      have K5 : Kp h h5 := kp_upd (K.trans K2) U5 (Nat.le_refl _)
      have hr5 : h5.rdn A.block (A.off + us.length * 5) 5 = some (encOp.enc o) := rdn_kp hr (K5.get _ (lt_of_rdn hr))
      simp (maxSteps := 10000000) (disch := first | assumption | ((try simp only [push_next, put_next, adv_next, List.length_cons, List.length_nil, List.length_map, List.length_set]); omega) | simp) [f0, f3, f5, f47, f48, f49, hll, hlen, hlen', hr5]
      refine GC_intro (ref_reads (o := o)) fun v h6 ⟨hz6, K6⟩ => ?_
      obtain ⟨ar, cr, rfl, sr⟩ := hz6
      have g6 := (K6.get _ lt5).trans g5
      have hrl := ireads_len o
      simp (maxSteps := 10000000) (disch := first | assumption | ((try simp only [push_next, put_next, adv_next, List.length_cons, List.length_nil, List.length_map, List.length_set]); omega) | simp) []
      refine G_loop (fun n e' h7 => ∃ ws zs, n = zs.length ∧ ireads o = ws ++ zs ∧ Upd h6 h7 [h.next] [h.next] ∧ h7.get h.next = some (.cells false (bls (aw2 (asks vs) o ws))) ∧ e' 0 = .slice (some A) D.length c ∧ e' 3 = ptr h.next 0 ∧ e' 5 = .int .i64 us.length ∧ e' 60 = .slice ar (ireads o).length cr ∧ e' 61 = .int .i64 (ireads o).length ∧ e' 62 = .int .i64 ws.length) ?_ (ireads o).length _ _ ⟨[], ireads o, rfl, rfl, .refl, by rw [aw2_nil]; exact g6, by simp [f0], by simp [f3], by simp [f5], by simp, by simp, by simp⟩
      rintro n ih3 e2 h7 ⟨xs, zs, rfl, hw7, U7, g7, d0, d3, d5, d60, d61, d62⟩
      have lt7 := lt_of_get g7
      cases zs with
      | cons z zs =>
        obtain ⟨z0, z1⟩ := ireads_in (o := o) (c := z) (by rw [hw7]; simp)
        have z2 : z ≤ 39 := by omega
        have hll' : (xs.length : Int) < (ireads o).length := by rw [hw7]; simp; omega
        obtain ⟨B, ro, C, rfl, k1, k2⟩ := Sees.cell (f := fun n => Value.int .i64 n) (fun _ => rfl) rfl (us := xs) (x := z) (vs := zs) (by rw [← hw7]; exact sr)
        have hB := not_bls k1 k2 g6
        have k1' : h7.get B.block = some (.cells ro C) := by rw [U7.get _ (lt_of_get k1) (by simpa using hB), k1]
        have hset := bls_set (aw2 (asks vs) o xs) (i := z) true z0 z1
        rw [aw2_step] at hset
        simp (maxSteps := 10000000) (disch := first | assumption | ((try simp only [push_next, put_next, adv_next, List.length_cons, List.length_nil, List.length_map, List.length_set]); omega) | simp) [d3, d60, d61, d62, hll', k1', k2, g7, z2, -over, o1]
        refine ih3 zs.length (by simp) _ _ ⟨xs ++ [z], zs, rfl, by simp [hw7], U7.put1, ?_, by simp [d0], by simp [d3], by simp [d5], by simp [d60], by simp [d61], by simp⟩
        rw [get_put_self lt7, hset]
      | nil =>
        have hxs : ireads o = xs := by simpa using hw7
        have hll7 : ((ireads o).length : Int) = xs.length := by rw [hxs]
        rw [← hxs] at g7
        simp (maxSteps := 10000000) (disch := first | assumption | ((try simp only [push_next, put_next, adv_next, List.length_cons, List.length_nil, List.length_map, List.length_set]); omega) | simp) [d0, d3, d5, d60, d61, d62, hll7]
        refine ih us.length (by simp) _ _ ⟨us, o :: vs, rfl, hx', kp_upd (K5.trans K6) U7 (Nat.le_refl _), ?_, by simp [d0], by simp [d3], by simp⟩
        rw [g7, aw2_all, asks_cons]
end
end Go.Proofs.Ytjobkhnanbkcjaa.Cd

/- Shorter rows: the laws of being the same, of being dead. -/
set_option maxRecDepth 1000000
set_option maxHeartbeats 8000000
set_option linter.unusedSimpArgs false
set_option linter.unusedVariables false
namespace Go.Proofs.Ytjobkhnanbkcjaa.Cd
open Go Go.Dx
section
variable {h : Hp} {q : Value → Hp → Prop} {b c c' c'' : Nat} {o p : IOp} {R : Regs} {a a' a'' : Option Addr} {l : List (BitVec 32)} {L A B D : List IOp} {f : Facts}
theorem sees_q2 {ro : Bool} (hg : h.get b = some (.cells ro (encOp.enc o ++ encOp.enc p))) : Sees encOp h (some ⟨b, 0, none⟩) [o, p] := ⟨fun hA => (by cases hA), fun A hA => by
  cases hA
  exact rdn_all hg (by simp [encOp]), fun A hA => (by cases hA; exact .inl rfl)⟩
theorem k_dead2 : idead [⟨1, 3, 0, 0, 1#32⟩, ⟨1, 3, 0, 0, 2#32⟩] = [⟨1, 3, 0, 0, 2#32⟩] := by decide
theorem k_dead0 : idead [⟨0, 0, 0, 0, 0#32⟩] = [] := by decide
theorem k_opt0 : iopt [] = [] := by decide
theorem k_opt1 : (iopt [⟨1, 3, 0, 0, 2#32⟩]).length = 1 := by decide
theorem known20 : WC T n_pianolalaw20_known [] h fun v h' => v = .bool true ∧ Kp h h' := by
  rw [w_pianolalaw20_known]
  simp (maxSteps := 10000000) (disch := first | assumption | ((try simp only [push_next, put_next, adv_next, List.length_cons, List.length_nil, List.length_map, List.length_set]); omega) | simp) [Hp.rdn]
  generalize hM : (h.push _).push _ = M
  have KM : Kp h M := by rw [← hM]; exact ((Kp.refl h).push _).push _
  have gt : M.get h.next = some (.cells false [.int .i64 1, .int .i64 3, .int .i64 0, .int .i64 0, u32 2#32]) := by rw [← hM, get_push_ne (by simp), get_push_self]
  have gl : M.get (h.next + 1) = some (.cells false (encOp.enc ⟨1, 3, 0, 0, 1#32⟩ ++ encOp.enc ⟨1, 3, 0, 0, 2#32⟩)) := by rw [← hM]; exact get_push_self (h := h.push _)
  refine GC_intro (opt_dead (L := [⟨1, 3, 0, 0, 1#32⟩, ⟨1, 3, 0, 0, 2#32⟩]) (c := 2) (sees_q2 gl) (by simp)) fun v h1 ⟨O1, K1⟩ => ?_
  rw [if_pos (by decide), k_dead2] at O1
  obtain ⟨a1, c1, rfl, s1, _, _⟩ := own_new_sees O1
  obtain ⟨A, rfl, hr⟩ := s1.at' 0 (by simp)
  have hr' : h1.rdn A.block A.off 5 = some (encOp.enc ⟨1, 3, 0, 0, 2#32⟩) := by simpa using hr
  have gt1 := (K1.get _ (lt_of_get gt)).trans gt
  have rt1 : h1.rdn h.next 0 5 = some (encOp.enc ⟨1, 3, 0, 0, 2#32⟩) := rdn_all (n := 5) gt1 rfl
  have hr2 : (h1.adv 2).rdn A.block A.off 5 = some (encOp.enc ⟨1, 3, 0, 0, 2#32⟩) := hr'
  have rt2 : (h1.adv 2).rdn h.next 0 5 = some (encOp.enc ⟨1, 3, 0, 0, 2#32⟩) := rt1
  have he := eq_op ⟨1, 3, 0, 0, 2#32⟩ ⟨1, 3, 0, 0, 2#32⟩
  simp only [decide_true] at he
  simp (maxSteps := 10000000) (disch := first | assumption | ((try simp only [push_next, put_next, adv_next, List.length_cons, List.length_nil, List.length_map, List.length_set]); omega) | simp) [hr2, rt2, he]
  generalize hN : (h1.adv 2).put h1.next _ = N
  have nN : N.next = h1.next + 2 := by rw [← hN]; rfl
  have gN : N.get h1.next = some (.cells false (encOp.enc ⟨0, 0, 0, 0, 0#32⟩)) := by rw [← hN, get_put_self (by simp)]; rfl
  have KN : Kp h1 N := by rw [← hN]; exact ((Kp.refl h1).adv 2).put (Nat.le_refl _) _
  refine GCI_intro (opt_dead (L := [⟨0, 0, 0, 0, 0#32⟩]) (c := 1) (sees_o1 gN) (by simp)) fun v h2 ⟨O2, K2⟩ => ?_
  rw [if_pos (by decide), k_dead0] at O2
  obtain ⟨a2, c2, rfl, s2, _, _⟩ := own_new_sees O2
  simp (maxSteps := 10000000) (disch := first | assumption | ((try simp only [push_next, put_next, adv_next, List.length_cons, List.length_nil, List.length_map, List.length_set]); omega) | simp) []
  refine GCI_intro (opt_Opt (L := []) (c := 0) (Sees.nul) (by simp)) fun v h3 ⟨O3, K3⟩ => ?_
  rw [if_pos (by decide), k_opt0] at O3
  obtain ⟨a3, c3, rfl, s3, _, _⟩ := own_new_sees O3
  have n3 : h1.next + 2 ≤ h3.next := by rw [← nN]; exact Nat.le_trans K2.le K3.le
  simp (maxSteps := 10000000) (disch := first | assumption | ((try simp only [push_next, put_next, adv_next, List.length_cons, List.length_nil, List.length_map, List.length_set]); omega) | simp) []
  generalize hP : h3.put (h1.next + 1) _ = P
  have gP : P.get (h1.next + 1) = some (.cells false (encOp.enc ⟨1, 3, 0, 0, 2#32⟩)) := by rw [← hP, get_put_self (by omega)]; rfl
  have K13 := (KM.trans K1)
  have KP : Kp h P := by rw [← hP]; exact (((K13.trans KN).trans K2).trans K3).put (by have := K13.le; omega) _
  refine GCI_intro (opt_Opt (L := [⟨1, 3, 0, 0, 2#32⟩]) (c := 1) (sees_o1 gP) (by simp)) fun v h4 ⟨O4, K4⟩ => ?_
  rw [if_pos (by decide)] at O4
  obtain ⟨a4, c4, rfl, s4, _, _⟩ := own_new_sees O4
  simp (maxSteps := 10000000) (disch := first | assumption | ((try simp only [push_next, put_next, adv_next, List.length_cons, List.length_nil, List.length_map, List.length_set]); omega) | simp) [k_opt1]
  exact KP.trans K4
theorem optsame (hs : Sees encW h a l) (hb : l.length < 2 ^ 63) (hL : Sees encOp h a' L) (hb' : L.length < 2 ^ 63) : WC T n_pianolalaw20_OptSame [.slice a l.length c, .slice a' L.length c'] h fun v _ => v = .bool true := by
  rw [w_pianolalaw20_OptSame]
  simp (maxSteps := 10000000) (disch := first | assumption | ((try simp only [push_next, put_next, adv_next, List.length_cons, List.length_nil, List.length_map, List.length_set]); omega) | simp)
  refine GC_intro (near20 (n := 40) hL hb' (by omega)) fun v h1 ⟨X, fp, O, hok, hX, hfp, K⟩ => ?_
  obtain ⟨ax, cx, rfl, sx, _, _⟩ := O.len
  have hX40 : X.length ≤ 40 := by omega
  have R0 := rgs_zero l
  have Rl := rgs_length l
  have fl : (ifold X).length ≤ X.length := ffold_len _ _
  simp (maxSteps := 10000000) (disch := first | assumption | ((try simp only [push_next, put_next, adv_next, List.length_cons, List.length_nil, List.length_map, List.length_set]); omega) | simp) []
  refine GC_intro (opt_Opt sx (by omega)) fun v h2 ⟨O2, K2⟩ => ?_
  rw [if_pos hok] at O2
  obtain ⟨a2, c2, rfl, s2, _, _⟩ := own_new_sees O2
  have k2 := K.trans K2
  simp (maxSteps := 10000000) (disch := first | assumption | ((try simp only [push_next, put_next, adv_next, List.length_cons, List.length_nil, List.length_map, List.length_set]); omega) | simp) []
  refine GC_intro (same20 (hs.kp k2) hb (sx.kp K2) (by omega) s2 (by have := iopt_len X; omega) hok (iopt_oks hok) (iopt_len X) (leaves_opt hok Rl R0).symm) fun v h3 ⟨hv, K3⟩ => ?_
  subst hv
  have k3 := k2.trans K3
  have x3 := sx.kp (K2.trans K3)
  simp (maxSteps := 10000000) (disch := first | assumption | ((try simp only [push_next, put_next, adv_next, List.length_cons, List.length_nil, List.length_map, List.length_set]); omega) | simp) []
  refine GC_intro (opt_dead x3 (by omega)) fun v h4 ⟨O4, K4⟩ => ?_
  rw [if_pos hok] at O4
  obtain ⟨a4, c4, rfl, s4, _, _⟩ := own_new_sees O4
  have k4 := k3.trans K4
  have x4 := x3.kp K4
  simp (maxSteps := 10000000) (disch := first | assumption | ((try simp only [push_next, put_next, adv_next, List.length_cons, List.length_nil, List.length_map, List.length_set]); omega) | simp) []
  refine GC_intro (same20 (hs.kp k4) hb x4 (by omega) s4 (by have := idead_len X; omega) hok (idead_oks hok) (idead_len X) (leaves_dead hok Rl).symm) fun v h5 ⟨hv, K5⟩ => ?_
  subst hv
  have k5 := k4.trans K5
  have x5 := x4.kp K5
  simp (maxSteps := 10000000) (disch := first | assumption | ((try simp only [push_next, put_next, adv_next, List.length_cons, List.length_nil, List.length_map, List.length_set]); omega) | simp) []
  refine GC_intro (opt_Fold x5 (by omega)) fun v h6 ⟨O6, K6⟩ => ?_
  rw [if_pos hok] at O6
  obtain ⟨a6, c6, rfl, s6, _, _⟩ := own_new_sees O6
  have k6 := k5.trans K6
  have x6 := x5.kp K6
  simp (maxSteps := 10000000) (disch := first | assumption | ((try simp only [push_next, put_next, adv_next, List.length_cons, List.length_nil, List.length_map, List.length_set]); omega) | simp) []
  refine GC_intro (same20 (hs.kp k6) hb x6 (by omega) s6 (by omega) hok (ifold_oks hok) fl (leaves_fold hok Rl R0).symm) fun v h7 ⟨hv, K7⟩ => ?_
  subst hv
  have k7 := k6.trans K7
  have x7 := x6.kp K7
  simp (maxSteps := 10000000) (disch := first | assumption | ((try simp only [push_next, put_next, adv_next, List.length_cons, List.length_nil, List.length_map, List.length_set]); omega) | simp) []
  refine GC_intro (opt_Fold x7 (by omega)) fun v h8 ⟨O8, K8⟩ => ?_
  rw [if_pos hok] at O8
  obtain ⟨a8, c8, rfl, s8, _, _⟩ := own_new_sees O8
  have k8 := k7.trans K8
  have x8 := x7.kp K8
  simp (maxSteps := 10000000) (disch := first | assumption | ((try simp only [push_next, put_next, adv_next, List.length_cons, List.length_nil, List.length_map, List.length_set]); omega) | simp) []
  refine GC_intro (opt_Fold x8 (by omega)) fun v h9 ⟨O9, K9⟩ => ?_
  rw [if_pos hok] at O9
  obtain ⟨a9, c9, rfl, s9, _, _⟩ := own_new_sees O9
  simp (maxSteps := 10000000) (disch := first | assumption | ((try simp only [push_next, put_next, adv_next, List.length_cons, List.length_nil, List.length_map, List.length_set]); omega) | simp) []
  refine GC_intro (opt_dead s9 (by omega)) fun v h10 ⟨O10, K10⟩ => ?_
  rw [if_pos (ifold_oks hok)] at O10
  obtain ⟨a10, c10, rfl, s10, _, _⟩ := own_new_sees O10
  have k10 := (k8.trans K9).trans K10
  simp (maxSteps := 10000000) (disch := first | assumption | ((try simp only [push_next, put_next, adv_next, List.length_cons, List.length_nil, List.length_map, List.length_set]); omega) | simp) []
  refine GC_intro (same20 (hs.kp k10) hb (s8.kp (K9.trans K10)) (by omega) s10 (by have := idead_len (ifold X); omega) (ifold_oks hok) (idead_oks (ifold_oks hok)) (idead_len _) (leaves_dead (ifold_oks hok) Rl).symm) fun v h11 ⟨hv, K11⟩ => ?_
  subst hv
  simp (maxSteps := 10000000) (disch := first | assumption | ((try simp only [push_next, put_next, adv_next, List.length_cons, List.length_nil, List.length_map, List.length_set]); omega) | simp) []
  refine GC_intro known20 fun v h12 ⟨hv, _⟩ => ?_
  subst hv
  simp (maxSteps := 10000000) (disch := first | assumption | ((try simp only [push_next, put_next, adv_next, List.length_cons, List.length_nil, List.length_map, List.length_set]); omega) | simp)
theorem optdead (hL : Sees encOp h a' L) (hb' : L.length < 2 ^ 63) : WC T n_pianolalaw20_OptDead [.slice a' L.length c'] h fun v _ => v = .bool true := by
  rw [w_pianolalaw20_OptDead]
  simp (maxSteps := 10000000) (disch := first | assumption | ((try simp only [push_next, put_next, adv_next, List.length_cons, List.length_nil, List.length_map, List.length_set]); omega) | simp)
  refine GC_intro (near20 (n := 40) hL hb' (by omega)) fun v h1 ⟨X, fp, O, hok, hX, hfp, K⟩ => ?_
  obtain ⟨ax, cx, rfl, sx, _, _⟩ := O.len
  have hX40 : X.length ≤ 40 := by omega
  simp (maxSteps := 10000000) (disch := first | assumption | ((try simp only [push_next, put_next, adv_next, List.length_cons, List.length_nil, List.length_map, List.length_set]); omega) | simp) []
  refine GC_intro (opt_dead sx (by omega)) fun v h2 ⟨O2, K2⟩ => ?_
  rw [if_pos hok] at O2
  obtain ⟨a2, c2, rfl, s2, _, _⟩ := own_new_sees O2
  have dl := idead_len X
  simp (maxSteps := 10000000) (disch := first | assumption | ((try simp only [push_next, put_next, adv_next, List.length_cons, List.length_nil, List.length_map, List.length_set]); omega) | simp) []
  refine GC_intro (live20 s2 (by omega) (idead_live hok).1) fun v h3 ⟨hv, K3⟩ => ?_
  subst hv
  simp (maxSteps := 10000000) (disch := first | assumption | ((try simp only [push_next, put_next, adv_next, List.length_cons, List.length_nil, List.length_map, List.length_set]); omega) | simp) []
  refine GC_intro (opt_dead (s2.kp K3) (by omega)) fun v h4 ⟨O4, K4⟩ => ?_
  have e : idead (idead X) = idead X := congrArg (·.2) (idead_again X)
  rw [if_pos (idead_oks hok), e] at O4
  obtain ⟨a4, c4, rfl, s4, _, _⟩ := own_new_sees O4
  have sm := fun (q : Value → Hp → Prop) (hq) => same_op (q := q) (c := c4) (c' := c2) s4 (s2.kp (K3.trans K4)) (by omega) hq
  simp (maxSteps := 10000000) (disch := first | assumption | ((try simp only [push_next, put_next, adv_next, List.length_cons, List.length_nil, List.length_map, List.length_set]); omega) | simp) []
  refine GC_intro (sm (fun v h' => v = .bool true ∧ h' = h4) (by simp)) fun v h5 ⟨hv, hh⟩ => ?_
  subst hv
  subst hh
  simp (maxSteps := 10000000) (disch := first | assumption | ((try simp only [push_next, put_next, adv_next, List.length_cons, List.length_nil, List.length_map, List.length_set]); omega) | simp) []
  refine GC_intro known20 fun v h12 ⟨hv, _⟩ => ?_
  subst hv
  simp (maxSteps := 10000000) (disch := first | assumption | ((try simp only [push_next, put_next, adv_next, List.length_cons, List.length_nil, List.length_map, List.length_set]); omega) | simp)
end
end Go.Proofs.Ytjobkhnanbkcjaa.Cd

/- Shorter rows: rows of registers with numbers ahead. -/
set_option maxRecDepth 1000000
set_option maxHeartbeats 8000000
set_option linter.unusedSimpArgs false
set_option linter.unusedVariables false
namespace Go.Proofs.Ytjobkhnanbkcjaa.Cd
open Go Go.Dx
section
variable {h : Hp} {q : Value → Hp → Prop} {b c c' c'' : Nat} {o p : IOp} {R : Regs} {a a' a'' : Option Addr} {l m : List (BitVec 32)} {L A B D : List IOp} {f : Facts}
theorem optlifts (hs : Sees encW h a l) (hb : l.length < 2 ^ 63) (hL : Sees encOp h a' L) (hb' : L.length < 2 ^ 63) (hLc : L.length ≤ c') (hm : Sees encW h a'' m) (hbm : m.length < 2 ^ 63) :
    WC T n_pianolalaw20_OptLifts [.slice a l.length c, .slice a' L.length c', .slice a'' m.length c''] h fun v _ => v = .bool true := by
  rw [w_pianolalaw20_OptLifts]
  simp (maxSteps := 1000000) (disch := first | assumption | ((try simp only [push_next, put_next, adv_next, List.length_cons, List.length_nil, List.length_map, List.length_set]); omega) | simp)
  refine G_loop (fun n e h' => ∃ (i : Nat) (X : List IOp) (fp : List Nat), n = 20 - i ∧ i ≤ 20 ∧ i ≤ L.length ∧ X.length ≤ 2 * i ∧ oks X ∧ Own encOp h' (e 7) X fp ∧ (∀ b ∈ fp, h.next ≤ b) ∧ Kp h h' ∧ e 0 = .slice a l.length c ∧ e 1 = .slice a' L.length c' ∧ e 2 = .slice a'' m.length c'' ∧ e 8 = .int .i64 i) ?_ 20 _ _ ⟨0, [], [], rfl, by omega, by omega, by simp, fun o ho => (by cases ho), by simp; exact .nul, by simp, .refl _, by simp, by simp, by simp, by simp⟩
  rintro n ih e h' ⟨i, X, fp, rfl, hi, hiL, hX, hok, O, hfp, K, e0, e1, e2, e8⟩
  by_cases hgo : i < L.length ∧ i < 20
  case neg =>
    obtain ⟨ax, cx, hv7, sx, _, _⟩ := O.len
    have R0 := rgs_zero l
    have Rl := rgs_length l
    rcases (show (¬ (i : Int) < L.length ∧ ¬ i < L.length) ∨ ((i : Int) < L.length ∧ ¬ (i : Int) < 20 ∧ i < L.length ∧ ¬ i < 20) by omega) with hh | hh <;>
    · simp (maxSteps := 1000000) (disch := first | assumption | ((try simp only [push_next, put_next, adv_next, List.length_cons, List.length_nil, List.length_map, List.length_set]); omega) | simp) [e0, e1, e8, hv7, hh]
      refine GC_intro (opt_Opt sx (by omega)) fun v h2 ⟨O2, K2⟩ => ?_
      rw [if_pos hok] at O2
      obtain ⟨a2, c2, rfl, s2, _, _⟩ := own_new_sees O2
      have k2 := K.trans K2
      have l2 := iopt_len X
      have ok2 := iopt_oks hok
      simp (maxSteps := 1000000) (disch := first | assumption | ((try simp only [push_next, put_next, adv_next, List.length_cons, List.length_nil, List.length_map, List.length_set]); omega) | simp) [e0, hv7]
      refine GC_intro (same20 (hs.kp k2) hb (sx.kp K2) (by omega) s2 (by omega) hok ok2 l2 (leaves_opt hok Rl R0).symm) fun v h3 ⟨hv, K3⟩ => ?_
      subst hv
      have k3 := k2.trans K3
      have s3 := s2.kp K3
      simp (maxSteps := 1000000) (disch := first | assumption | ((try simp only [push_next, put_next, adv_next, List.length_cons, List.length_nil, List.length_map, List.length_set]); omega) | simp) [e0, hv7]
      refine GC_intro (opt_Opt s3 (by omega)) fun v h4 ⟨O4, K4⟩ => ?_
      rw [if_pos ok2] at O4
      obtain ⟨a4, c4, rfl, s4, _, _⟩ := own_new_sees O4
      have k4 := k3.trans K4
      have l4 := iopt_len (iopt X)
      simp (maxSteps := 1000000) (disch := first | assumption | ((try simp only [push_next, put_next, adv_next, List.length_cons, List.length_nil, List.length_map, List.length_set]); omega) | simp) [e0, hv7]
      refine GC_intro (same20 (hs.kp k4) hb (s3.kp K4) (by omega) s4 (by omega) ok2 (iopt_oks ok2) l4 (leaves_opt ok2 Rl R0).symm) fun v h5 ⟨hv, K5⟩ => ?_
      subst hv
      simp (maxSteps := 1000000) (disch := first | assumption | ((try simp only [push_next, put_next, adv_next, List.length_cons, List.length_nil, List.length_map, List.length_set]); omega) | simp) [e0, hv7]
      refine GC_intro (opt_dead ((s3.kp K4).kp K5) (by omega)) fun v h6 ⟨O6, K6⟩ => ?_
      rw [if_pos ok2] at O6
      obtain ⟨a6, c6, rfl, s6, _, _⟩ := own_new_sees O6
      have l6 := idead_len (iopt X)
      simp (maxSteps := 1000000) (disch := first | assumption | ((try simp only [push_next, put_next, adv_next, List.length_cons, List.length_nil, List.length_map, List.length_set]); omega) | simp) []
      refine GC_intro (live20 s6 (by omega) (idead_live ok2).1) fun v h7 ⟨hv, K7⟩ => ?_
      subst hv
      simp (maxSteps := 1000000) (disch := first | assumption | ((try simp only [push_next, put_next, adv_next, List.length_cons, List.length_nil, List.length_map, List.length_set]); omega) | simp) []
      refine GC_intro known20 fun v h12 ⟨hv, _⟩ => ?_
      subst hv
      simp (maxSteps := 1000000) (disch := first | assumption | ((try simp only [push_next, put_next, adv_next, List.length_cons, List.length_nil, List.length_map, List.length_set]); omega) | simp)
  obtain ⟨h1, h2⟩ := hgo
  have h1' : (i : Int) < L.length := by omega
  have h2' : (i : Int) < 20 := by omega
  obtain ⟨a2, c2, es, _, s2⟩ := (hL.kp K).part (lo := i) (hi := L.length) (by omega) (Nat.le_refl _) hLc (l := some (.int .i64 i)) (u := none) (.inr ⟨.i64, rfl⟩) (.inl ⟨rfl, rfl⟩)
  have s2' : Sees encOp h' a2 (L.drop i) := by
    have e : (L.drop i).take (L.length - i) = L.drop i := List.take_of_length_le (by simp)
    rw [e] at s2
    exact s2
  have es' : sliceV 5 (.slice a' L.length c') (some (.int .i64 i)) none none = some (.slice a2 (L.length - i) c2) := es
  have ld : (L.drop i).length = L.length - i := by simp
  by_cases h3 : i < m.length
  · have h3' : (i : Int) < m.length := by omega
    obtain ⟨us, w, vs, hx, hu⟩ : ∃ us w vs, m = us ++ w :: vs ∧ us.length = i := ⟨m.take i, m[i], m.drop (i + 1), by simp, by simp; omega⟩
    obtain ⟨A, ro, C, rfl, k1, k2⟩ := Sees.cell (f := u32) (fun _ => rfl) rfl (us := us) (x := w) (vs := vs) (by rw [← hx]; exact hm.kp K)
    rw [hu] at k2
    have e4 : (i : Int).tmod 4 = ((i % 4 : Nat) : Int) := by rw [Int.tmod_eq_emod_of_nonneg (by omega)]; rfl
    simp (maxSteps := 1000000) (disch := first | assumption | ((try simp only [push_next, put_next, adv_next, List.length_cons, List.length_nil, List.length_map, List.length_set]); omega) | simp) [e1, e2, e8, h1, h1', h2, h2', h3, h3', k1, k2, e4, -Int.natCast_emod]
    have okc : (⟨1, 34 + ((i % 4 : Nat) : Int), 0, 0, w⟩ : IOp).ok := ⟨⟨by simp; omega, by simp; omega⟩, by simp, by simp, by simp, by simp⟩
    refine GV_app1 (E := encOp) (bytes := 40) (x := ⟨1, 34 + ((i % 4 : Nat) : Int), 0, 0, w⟩) O (by omega) (by omega) fun v3 h3 fp3 O3 U3 => ?_
    have K3 := U3.kp' K hfp
    have hfp3 : ∀ b ∈ fp3, h.next ≤ b := fun b hb => by
      rcases U3.sub b hb with h6 | h6
      · exact hfp b h6
      · exact Nat.le_trans K.le h6
    have s3 : Sees encOp h3 a2 (L.drop i) := s2'.upd U3 (fun A' hA hb => by
      obtain ⟨B, hB, e⟩ := sliceV_block es A' hA
      have := lt_of_rdn (hL.get B hB)
      have := hfp _ hb
      omega)
    simp (maxSteps := 1000000) (disch := first | assumption | ((try simp only [push_next, put_next, adv_next, List.length_cons, List.length_nil, List.length_map, List.length_set]); omega) | simp) [e1, e2, e8, es']
    have nr := near20 (n := 1) (c := c2) s3 (by omega) (by omega)
    rw [ld] at nr
    refine GC_intro nr fun v h4 ⟨X1, fpn, On, hok1, hX1, hfpn, Kn⟩ => ?_
    obtain ⟨an, cn, rfl, sn, _, _⟩ := On.len
    have hX1 : X1.length = 1 := by rw [hX1]; omega
    simp (maxSteps := 1000000) (disch := first | assumption | ((try simp only [push_next, put_next, adv_next, List.length_cons, List.length_nil, List.length_map, List.length_set]); omega) | simp) [e0, e1, e2, e8]
    rw [hX1]
    refine GV_app (E := encOp) (bytes := 40) (O3.kp Kn) (ys := X1) (by simpa [hX1] using sn) hX1.symm (by simp; omega) (by simp; omega) fun v' h5 fp' O5 U5 => ?_
    simp (maxSteps := 1000000) (disch := first | assumption | ((try simp only [push_next, put_next, adv_next, List.length_cons, List.length_nil, List.length_map, List.length_set]); omega) | simp) [e0, e1, e2, e8]
    refine ih (20 - (i + 1)) (by omega) _ _ ⟨i + 1, X ++ [⟨1, 34 + ((i % 4 : Nat) : Int), 0, 0, w⟩] ++ X1, fp', rfl, by omega, by omega, ?_, ?_, by simpa using O5, fun b hb => ?_, U5.kp' (K3.trans Kn) hfp3, by simp [e0], by simp [e1], by simp [e2], by simp⟩
    · simp; omega
    · intro x hx
      simp only [List.mem_append, List.mem_singleton] at hx
      rcases hx with (hx | hx) | hx
      · exact hok x hx
      · subst hx; exact okc
      · exact hok1 x hx
    · rcases U5.sub b hb with h6 | h6
      · exact hfp3 b h6
      · exact Nat.le_trans (K3.trans Kn).le h6
  · have h3' : ¬ ((i : Int) < m.length) := by omega
    simp (maxSteps := 1000000) (disch := first | assumption | ((try simp only [push_next, put_next, adv_next, List.length_cons, List.length_nil, List.length_map, List.length_set]); omega) | simp) [e1, e2, e8, h1, h1', h2, h2', h3, h3', es']
    have nr := near20 (n := 1) (c := c2) s2' (by omega) (by omega)
    rw [ld] at nr
    refine GC_intro nr fun v h4 ⟨X1, fpn, On, hok1, hX1, hfpn, Kn⟩ => ?_
    obtain ⟨an, cn, rfl, sn, _, _⟩ := On.len
    have hX1 : X1.length = 1 := by rw [hX1]; omega
    simp (maxSteps := 1000000) (disch := first | assumption | ((try simp only [push_next, put_next, adv_next, List.length_cons, List.length_nil, List.length_map, List.length_set]); omega) | simp) [e0, e1, e2, e8]
    rw [hX1]
    refine GV_app (E := encOp) (bytes := 40) (O.kp Kn) (ys := X1) (by simpa [hX1] using sn) hX1.symm (by simp; omega) (by simp; omega) fun v' h5 fp' O5 U5 => ?_
    simp (maxSteps := 1000000) (disch := first | assumption | ((try simp only [push_next, put_next, adv_next, List.length_cons, List.length_nil, List.length_map, List.length_set]); omega) | simp) [e0, e1, e2, e8]
    refine ih (20 - (i + 1)) (by omega) _ _ ⟨i + 1, X ++ X1, fp', rfl, by omega, by omega, ?_, ?_, by simpa using O5, fun b hb => ?_, U5.kp' (K.trans Kn) hfp, by simp [e0], by simp [e1], by simp [e2], by simp⟩
    · simp; omega
    · intro x hx
      simp only [List.mem_append, List.mem_singleton] at hx
      rcases hx with hx | hx
      · exact hok x hx
      · exact hok1 x hx
    · rcases U5.sub b hb with h6 | h6
      · exact hfp b h6
      · exact Nat.le_trans (K.trans Kn).le h6
end
end Go.Proofs.Ytjobkhnanbkcjaa.Cd
