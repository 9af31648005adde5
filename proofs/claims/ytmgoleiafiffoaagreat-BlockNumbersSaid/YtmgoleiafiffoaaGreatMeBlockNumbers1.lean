/- Texts of one kind, one behind the other. -/
import Derived.Test.YtmgoleiafiffoaaGreatMd1
import Derived.Test.YtmgoleiafiffoaaGreatMcz0
/- decode: tables. -/
set_option maxRecDepth 1000000
set_option maxHeartbeats 8000000
set_option linter.unusedSimpArgs false
set_option linter.unusedVariables false
namespace Go.Proofs.YtmgoleiafiffoaaGreat.Cd
open Go Go.Dx
section
variable {h : Hp} {q : Value → Hp → Prop} {w : BitVec 32} {k : Int}
theorem dec_specialN {n : Nat} (hn : n < 64) : WC T n_0h [u32 (BitVec.ofNat 32 n)] h q ↔ q (.int .i64 (spTab.getD n 0)) h := by
  rw [w_0h]
  rcases (by omega : n = 0 ∨ n = 1 ∨ n = 2 ∨ n = 3 ∨ n = 4 ∨ n = 5 ∨ n = 6 ∨ n = 7 ∨ n = 8 ∨ n = 9 ∨ n = 10 ∨ n = 11 ∨ n = 12 ∨ n = 13 ∨ n = 14 ∨ n = 15 ∨ n = 16 ∨ n = 17 ∨ n = 18 ∨ n = 19 ∨ n = 20 ∨ n = 21 ∨ n = 22 ∨ n = 23 ∨ n = 24 ∨ n = 25 ∨ n = 26 ∨ n = 27 ∨ n = 28 ∨ n = 29 ∨ n = 30 ∨ n = 31 ∨ n = 32 ∨ n = 33 ∨ n = 34 ∨ n = 35 ∨ n = 36 ∨ n = 37 ∨ n = 38 ∨ n = 39 ∨ n = 40 ∨ n = 41 ∨ n = 42 ∨ n = 43 ∨ n = 44 ∨ n = 45 ∨ n = 46 ∨ n = 47 ∨ n = 48 ∨ n = 49 ∨ n = 50 ∨ n = 51 ∨ n = 52 ∨ n = 53 ∨ n = 54 ∨ n = 55 ∨ n = 56 ∨ n = 57 ∨ n = 58 ∨ n = 59 ∨ n = 60 ∨ n = 61 ∨ n = 62 ∨ n = 63) with rfl | rfl | rfl | rfl | rfl | rfl | rfl | rfl | rfl | rfl | rfl | rfl | rfl | rfl | rfl | rfl | rfl | rfl | rfl | rfl | rfl | rfl | rfl | rfl | rfl | rfl | rfl | rfl | rfl | rfl | rfl | rfl | rfl | rfl | rfl | rfl | rfl | rfl | rfl | rfl | rfl | rfl | rfl | rfl | rfl | rfl | rfl | rfl | rfl | rfl | rfl | rfl | rfl | rfl | rfl | rfl | rfl | rfl | rfl | rfl | rfl | rfl | rfl | rfl <;> simp (maxSteps:=9^7)(disch:=first|assumption|((try simp only[nX]);omega)|simp) [spTab]
theorem dec_special {v : BitVec 32} (hv : v.toNat < 64) : WC T n_0h [u32 v] h q ↔ q (.int .i64 (spTab.getD v.toNat 0)) h := by
  have := dec_specialN (h := h) (q := q) hv
  rwa [show BitVec.ofNat 32 v.toNat = v from by simp] at this
theorem dec_regimmN {n : Nat} (hn : n < 32) : WC T n_0g [u32 (BitVec.ofNat 32 n)] h q ↔ q (.int .i64 (rgTab.getD n 0)) h := by
  rw [w_0g]
  rcases (by omega : n = 0 ∨ n = 1 ∨ n = 2 ∨ n = 3 ∨ n = 4 ∨ n = 5 ∨ n = 6 ∨ n = 7 ∨ n = 8 ∨ n = 9 ∨ n = 10 ∨ n = 11 ∨ n = 12 ∨ n = 13 ∨ n = 14 ∨ n = 15 ∨ n = 16 ∨ n = 17 ∨ n = 18 ∨ n = 19 ∨ n = 20 ∨ n = 21 ∨ n = 22 ∨ n = 23 ∨ n = 24 ∨ n = 25 ∨ n = 26 ∨ n = 27 ∨ n = 28 ∨ n = 29 ∨ n = 30 ∨ n = 31) with rfl | rfl | rfl | rfl | rfl | rfl | rfl | rfl | rfl | rfl | rfl | rfl | rfl | rfl | rfl | rfl | rfl | rfl | rfl | rfl | rfl | rfl | rfl | rfl | rfl | rfl | rfl | rfl | rfl | rfl | rfl | rfl <;> simp (maxSteps:=9^7)(disch:=first|assumption|((try simp only[nX]);omega)|simp) [rgTab]
theorem dec_regimm {v : BitVec 32} (hv : v.toNat < 32) : WC T n_0g [u32 v] h q ↔ q (.int .i64 (rgTab.getD v.toNat 0)) h := by
  have := dec_regimmN (h := h) (q := q) hv
  rwa [show BitVec.ofNat 32 v.toNat = v from by simp] at this
theorem dec_tableN {n : Nat} (hn : n < 64) : WC T n_0j [u32 (BitVec.ofNat 32 n)] h q ↔ q (.int .i64 (tbTab.getD n 0)) h := by
  rw [w_0j]
  rcases (by omega : n = 0 ∨ n = 1 ∨ n = 2 ∨ n = 3 ∨ n = 4 ∨ n = 5 ∨ n = 6 ∨ n = 7 ∨ n = 8 ∨ n = 9 ∨ n = 10 ∨ n = 11 ∨ n = 12 ∨ n = 13 ∨ n = 14 ∨ n = 15 ∨ n = 16 ∨ n = 17 ∨ n = 18 ∨ n = 19 ∨ n = 20 ∨ n = 21 ∨ n = 22 ∨ n = 23 ∨ n = 24 ∨ n = 25 ∨ n = 26 ∨ n = 27 ∨ n = 28 ∨ n = 29 ∨ n = 30 ∨ n = 31 ∨ n = 32 ∨ n = 33 ∨ n = 34 ∨ n = 35 ∨ n = 36 ∨ n = 37 ∨ n = 38 ∨ n = 39 ∨ n = 40 ∨ n = 41 ∨ n = 42 ∨ n = 43 ∨ n = 44 ∨ n = 45 ∨ n = 46 ∨ n = 47 ∨ n = 48 ∨ n = 49 ∨ n = 50 ∨ n = 51 ∨ n = 52 ∨ n = 53 ∨ n = 54 ∨ n = 55 ∨ n = 56 ∨ n = 57 ∨ n = 58 ∨ n = 59 ∨ n = 60 ∨ n = 61 ∨ n = 62 ∨ n = 63) with rfl | rfl | rfl | rfl | rfl | rfl | rfl | rfl | rfl | rfl | rfl | rfl | rfl | rfl | rfl | rfl | rfl | rfl | rfl | rfl | rfl | rfl | rfl | rfl | rfl | rfl | rfl | rfl | rfl | rfl | rfl | rfl | rfl | rfl | rfl | rfl | rfl | rfl | rfl | rfl | rfl | rfl | rfl | rfl | rfl | rfl | rfl | rfl | rfl | rfl | rfl | rfl | rfl | rfl | rfl | rfl | rfl | rfl | rfl | rfl | rfl | rfl | rfl | rfl <;> simp (maxSteps:=9^7)(disch:=first|assumption|((try simp only[nX]);omega)|simp) [tbTab]
theorem dec_table {v : BitVec 32} (hv : v.toNat < 64) : WC T n_0j [u32 v] h q ↔ q (.int .i64 (tbTab.getD v.toNat 0)) h := by
  have := dec_tableN (h := h) (q := q) hv
  rwa [show BitVec.ofNat 32 v.toNat = v from by simp] at this
theorem dec_special2N {n : Nat} (hn : n < 64) : WC T n_0i [u32 (BitVec.ofNat 32 n)] h q ↔ q (.int .i64 (s2Tab.getD n 0)) h := by
  rw [w_0i]
  rcases (by omega : n = 0 ∨ n = 1 ∨ n = 2 ∨ n = 3 ∨ n = 4 ∨ n = 5 ∨ n = 6 ∨ n = 7 ∨ n = 8 ∨ n = 9 ∨ n = 10 ∨ n = 11 ∨ n = 12 ∨ n = 13 ∨ n = 14 ∨ n = 15 ∨ n = 16 ∨ n = 17 ∨ n = 18 ∨ n = 19 ∨ n = 20 ∨ n = 21 ∨ n = 22 ∨ n = 23 ∨ n = 24 ∨ n = 25 ∨ n = 26 ∨ n = 27 ∨ n = 28 ∨ n = 29 ∨ n = 30 ∨ n = 31 ∨ n = 32 ∨ n = 33 ∨ n = 34 ∨ n = 35 ∨ n = 36 ∨ n = 37 ∨ n = 38 ∨ n = 39 ∨ n = 40 ∨ n = 41 ∨ n = 42 ∨ n = 43 ∨ n = 44 ∨ n = 45 ∨ n = 46 ∨ n = 47 ∨ n = 48 ∨ n = 49 ∨ n = 50 ∨ n = 51 ∨ n = 52 ∨ n = 53 ∨ n = 54 ∨ n = 55 ∨ n = 56 ∨ n = 57 ∨ n = 58 ∨ n = 59 ∨ n = 60 ∨ n = 61 ∨ n = 62 ∨ n = 63) with rfl | rfl | rfl | rfl | rfl | rfl | rfl | rfl | rfl | rfl | rfl | rfl | rfl | rfl | rfl | rfl | rfl | rfl | rfl | rfl | rfl | rfl | rfl | rfl | rfl | rfl | rfl | rfl | rfl | rfl | rfl | rfl | rfl | rfl | rfl | rfl | rfl | rfl | rfl | rfl | rfl | rfl | rfl | rfl | rfl | rfl | rfl | rfl | rfl | rfl | rfl | rfl | rfl | rfl | rfl | rfl | rfl | rfl | rfl | rfl | rfl | rfl | rfl | rfl <;> simp (maxSteps:=9^7)(disch:=first|assumption|((try simp only[nX]);omega)|simp) [s2Tab]
theorem dec_special2 {v : BitVec 32} (hv : v.toNat < 64) : WC T n_0i [u32 v] h q ↔ q (.int .i64 (s2Tab.getD v.toNat 0)) h := by
  have := dec_special2N (h := h) (q := q) hv
  rwa [show BitVec.ofNat 32 v.toNat = v from by simp] at this
theorem dec_majorN {n : Nat} (hn : n < 64) : WC T n_0e [u32 (BitVec.ofNat 32 n)] h q ↔ q (.int .i64 (mjTab.getD n 0)) h := by
  rw [w_0e]
  rcases (by omega : n = 0 ∨ n = 1 ∨ n = 2 ∨ n = 3 ∨ n = 4 ∨ n = 5 ∨ n = 6 ∨ n = 7 ∨ n = 8 ∨ n = 9 ∨ n = 10 ∨ n = 11 ∨ n = 12 ∨ n = 13 ∨ n = 14 ∨ n = 15 ∨ n = 16 ∨ n = 17 ∨ n = 18 ∨ n = 19 ∨ n = 20 ∨ n = 21 ∨ n = 22 ∨ n = 23 ∨ n = 24 ∨ n = 25 ∨ n = 26 ∨ n = 27 ∨ n = 28 ∨ n = 29 ∨ n = 30 ∨ n = 31 ∨ n = 32 ∨ n = 33 ∨ n = 34 ∨ n = 35 ∨ n = 36 ∨ n = 37 ∨ n = 38 ∨ n = 39 ∨ n = 40 ∨ n = 41 ∨ n = 42 ∨ n = 43 ∨ n = 44 ∨ n = 45 ∨ n = 46 ∨ n = 47 ∨ n = 48 ∨ n = 49 ∨ n = 50 ∨ n = 51 ∨ n = 52 ∨ n = 53 ∨ n = 54 ∨ n = 55 ∨ n = 56 ∨ n = 57 ∨ n = 58 ∨ n = 59 ∨ n = 60 ∨ n = 61 ∨ n = 62 ∨ n = 63) with rfl | rfl | rfl | rfl | rfl | rfl | rfl | rfl | rfl | rfl | rfl | rfl | rfl | rfl | rfl | rfl | rfl | rfl | rfl | rfl | rfl | rfl | rfl | rfl | rfl | rfl | rfl | rfl | rfl | rfl | rfl | rfl | rfl | rfl | rfl | rfl | rfl | rfl | rfl | rfl | rfl | rfl | rfl | rfl | rfl | rfl | rfl | rfl | rfl | rfl | rfl | rfl | rfl | rfl | rfl | rfl | rfl | rfl | rfl | rfl | rfl | rfl | rfl | rfl <;> simp (maxSteps:=9^7)(disch:=first|assumption|((try simp only[nX]);omega)|simp) [mjTab]
theorem dec_major {v : BitVec 32} (hv : v.toNat < 64) : WC T n_0e [u32 v] h q ↔ q (.int .i64 (mjTab.getD v.toNat 0)) h := by
  have := dec_majorN (h := h) (q := q) hv
  rwa [show BitVec.ofNat 32 v.toNat = v from by simp] at this
theorem dec_fieldsN {n : Nat} (hn : n < 78) : WC T n_0c [.int .i64 (n : Int)] h q ↔ q (.int .i64 (dfld n : Int)) h := by
  rw [w_0c]
  rcases (by omega : n = 0 ∨ n = 1 ∨ n = 2 ∨ n = 3 ∨ n = 4 ∨ n = 5 ∨ n = 6 ∨ n = 7 ∨ n = 8 ∨ n = 9 ∨ n = 10 ∨ n = 11 ∨ n = 12 ∨ n = 13 ∨ n = 14 ∨ n = 15 ∨ n = 16 ∨ n = 17 ∨ n = 18 ∨ n = 19 ∨ n = 20 ∨ n = 21 ∨ n = 22 ∨ n = 23 ∨ n = 24 ∨ n = 25 ∨ n = 26 ∨ n = 27 ∨ n = 28 ∨ n = 29 ∨ n = 30 ∨ n = 31 ∨ n = 32 ∨ n = 33 ∨ n = 34 ∨ n = 35 ∨ n = 36 ∨ n = 37 ∨ n = 38 ∨ n = 39 ∨ n = 40 ∨ n = 41 ∨ n = 42 ∨ n = 43 ∨ n = 44 ∨ n = 45 ∨ n = 46 ∨ n = 47 ∨ n = 48 ∨ n = 49 ∨ n = 50 ∨ n = 51 ∨ n = 52 ∨ n = 53 ∨ n = 54 ∨ n = 55 ∨ n = 56 ∨ n = 57 ∨ n = 58 ∨ n = 59 ∨ n = 60 ∨ n = 61 ∨ n = 62 ∨ n = 63 ∨ n = 64 ∨ n = 65 ∨ n = 66 ∨ n = 67 ∨ n = 68 ∨ n = 69 ∨ n = 70 ∨ n = 71 ∨ n = 72 ∨ n = 73 ∨ n = 74 ∨ n = 75 ∨ n = 76 ∨ n = 77) with rfl | rfl | rfl | rfl | rfl | rfl | rfl | rfl | rfl | rfl | rfl | rfl | rfl | rfl | rfl | rfl | rfl | rfl | rfl | rfl | rfl | rfl | rfl | rfl | rfl | rfl | rfl | rfl | rfl | rfl | rfl | rfl | rfl | rfl | rfl | rfl | rfl | rfl | rfl | rfl | rfl | rfl | rfl | rfl | rfl | rfl | rfl | rfl | rfl | rfl | rfl | rfl | rfl | rfl | rfl | rfl | rfl | rfl | rfl | rfl | rfl | rfl | rfl | rfl | rfl | rfl | rfl | rfl | rfl | rfl | rfl | rfl | rfl | rfl | rfl | rfl | rfl | rfl <;> simp (maxSteps:=9^7)(disch:=first|assumption|((try simp only[nX]);omega)|simp) [dfld, fdTab]
theorem dec_fields (hk : 0 ≤ k ∧ k ≤ 77) : WC T n_0c [.int .i64 k] h q ↔ q (.int .i64 (dfld k : Int)) h := by
  obtain ⟨n, rfl⟩ : ∃ n : Nat, k = n := ⟨k.toNat, by omega⟩
  exact dec_fieldsN (by omega)
end
end Go.Proofs.YtmgoleiafiffoaaGreat.Cd

/- Words of 32 bits: what each function does. -/
set_option maxRecDepth 1000000
set_option linter.unusedSimpArgs false
set_option linter.unusedVariables false
namespace Go.Proofs.YtmgoleiafiffoaaGreat.Cd
open Go Go.Dx
section
attribute [local congr] ite_ctx
variable {h : Hp} {q : Value → Hp → Prop} {a b : BitVec 32}
theorem word_less {s : Bool} : WC T n_54 [u32 a, u32 b, .bool s] h q ↔ q (.bool (less a b s)) h := by
  rw [w_54]
  simp (maxSteps:=9^7)(disch:=first|assumption|((try simp only[nX]);omega)|simp) []
  cases s <;> simp [less, BitVec.lt_def]
theorem ir_one {s : Bool} : WC T n_0s [.bool s] h q ↔ q (u32 (b1 s)) h := by
  rw [w_0s]
  simp (maxSteps:=9^7)(disch:=first|assumption|((try simp only[nX]);omega)|simp) []
  cases s <;> simp [b1]
theorem word_sar {n : Int} : WC T n_56 [u32 a, .int .i64 n] h q ↔ q (u32 (sar a (n % 32).toNat)) h := by
  rw [w_56]
  have h1 : ((n % 32).toNat : Int) = n % 32 := by omega
  have h2 := shr_i32 .i64 a (n % 32).toNat (by omega)
  rw [h1] at h2
  simp (maxSteps:=9^7)(disch:=first|assumption|((try simp only[nX]);omega)|simp) [and_31, h2, cvt_u32_i32]
theorem word_mul {s : Bool} : WC T n_55 [u32 a, u32 b, .bool s] h q ↔ q (.tuple #[u32 (mulHi a b s), u32 (a * b)]) h := by
  rw [w_55]
  have h1 := mul_lo a b s
  simp (maxSteps:=9^7)(disch:=first|assumption|((try simp only[nX]);omega)|simp) [ofInt_wrap64, hi64, lo64, mul64]
  cases s <;> simp [mulHi, ← h1] <;> simp [mulI]
theorem word_div {s : Bool} : WC T n_53 [u32 a, u32 b, .bool s] h q ↔ q (.tuple #[u32 (divQ a b s), u32 (divR a b s)]) h := by
  rw [w_53]
  by_cases hb : b = 0#32
  · simp (maxSteps:=9^7)(disch:=first|assumption|((try simp only[nX]);omega)|simp) [hb, divQ, divR]
  cases s
  · simp (maxSteps:=9^7)(disch:=first|assumption|((try simp only[nX]);omega)|simp) [hb, divQ, divR]
  · have hz := wide_zero b true hb
    have h1 := divQ_wide a b true hb
    have h2 := divR_wide a b true hb
    simp [wide] at hz h1 h2
    simp (maxSteps:=9^7)(disch:=first|assumption|((try simp only[nX]);omega)|simp) [hb, h1, h2, hz]
theorem ref_wide {s : Bool} : WC T n_2v [u32 a, .bool s] h q ↔ q (.int .i64 (wide a s)) h := by
  rw [w_2v]
  have hb := a.isLt
  cases s
  · simp (maxSteps:=9^7)(disch:=first|assumption|((try simp only[nX]);omega)|simp) [wide]
  · by_cases h1 : 2147483648 ≤ a.toNat
    · have h2 := toInt_of_ge a h1
      have h3 := toInt_bound a
      simp (maxSteps:=9^7)(disch:=first|assumption|((try simp only[nX]);omega)|simp) [wide, BitVec.le_def, h1, h2]
    · have h2 := toInt_of_lt a h1
      simp (maxSteps:=9^7)(disch:=first|assumption|((try simp only[nX]);omega)|simp) [wide, BitVec.le_def, h1, h2]
theorem ref_less {s : Bool} : WC T n_2q [u32 a, u32 b, .bool s] h q ↔ q (.bool (less a b s)) h := by
  rw [w_2q]
  simp (maxSteps:=9^7)(disch:=first|assumption|((try simp only[nX]);omega)|simp) [GC_of (fun q => ref_wide), less_wide]
theorem ref_mul {s : Bool} : WC T n_2r [u32 a, u32 b, .bool s] h q ↔ q (.tuple #[u32 (mulHi a b s), u32 (a * b)]) h := by
  rw [w_2r]
  have h1 := mul_lo a b false
  have e : mulHi a b false = BitVec.ofInt 32 (mulI a b false / 4294967296) := rfl
  cases s
  · simp (maxSteps:=9^7)(disch:=first|assumption|((try simp only[nX]);omega)|simp) [ofInt_wrap64, hi64, lo64, mul64, h1, e]
  · have h2 := mul_hi_ref a b
    by_cases ha : 2147483648 ≤ a.toNat <;> by_cases hb : 2147483648 ≤ b.toNat <;> simp only [ha, hb, if_true, if_false, BitVec.sub_zero] at h2 <;>
      simp (maxSteps:=9^7)(disch:=first|assumption|((try simp only[nX]);omega)|simp) [ofInt_wrap64, hi64, lo64, mul64, h1, BitVec.le_def, ha, hb, h2]
theorem ref_div {s : Bool} : WC T n_2p [u32 a, u32 b, .bool s] h q ↔ q (.tuple #[u32 (divQ a b s), u32 (divR a b s)]) h := by
  rw [w_2p]
  by_cases hb : b = 0#32
  · simp (maxSteps:=9^7)(disch:=first|assumption|((try simp only[nX]);omega)|simp) [hb, divQ, divR]
  · have hz := wide_zero b s hb
    simp (maxSteps:=9^7)(disch:=first|assumption|((try simp only[nX]);omega)|simp) [hb, GC_of (fun q => ref_wide), hz, divQ_wide a b s hb, divR_wide a b s hb]
theorem ref_bit {s : Bool} : WC T n_2m [.bool s] h q ↔ q (u32 (b1 s)) h := by
  rw [w_2m]
  simp (maxSteps:=9^7)(disch:=first|assumption|((try simp only[nX]);omega)|simp) []
  cases s <;> simp [b1]
end
end Go.Proofs.YtmgoleiafiffoaaGreat.Cd

/- Small operations: what each function does. -/
set_option maxRecDepth 1000000
set_option maxHeartbeats 4000000
set_option linter.unusedSimpArgs false
set_option linter.unusedVariables false
namespace Go.Proofs.YtmgoleiafiffoaaGreat.Cd
open Go Go.Dx
section
attribute [local congr] ite_ctx
variable {h : Hp} {q : Value → Hp → Prop} {a b : BitVec 32}
theorem len32 : WC T n_0z [u32 a] h q ↔ q (.int .i64 (lenN a.toNat)) h := by
  have ha := a.isLt
  have fin : ∀ (w : BitVec 32) (k : Nat), w.toNat < 256 → k ≤ 24 → IntKind.i64.wrap ((k : Int) + IntKind.i64.wrap (lenN (BitVec.setWidth 8 w).toNat : Int)) = (k + lenN w.toNat : Nat) := fun w k hw hk => by
    have e : (BitVec.setWidth 8 w).toNat = w.toNat := by simp; omega
    have := lenN_le (n := w.toNat) (k := 8) (by omega)
    rw [e, wrap_i64 (n := (lenN w.toNat : Int)) (by omega) (by omega), wrap_i64 (by omega) (by omega)]
    omega
  have s16 : (a >>> 16).toNat = a.toNat >>> 16 := by simp
  have s24 : (a >>> 24).toNat = a.toNat >>> 24 := by simp
  have s8 : (a >>> 8).toNat = a.toNat >>> 8 := by simp
  rw [w_0z]
  by_cases h1 : 65536#32 ≤ a
  · have g1 : 65536 ≤ a.toNat := h1
    have l1 := lenN_shift (n := a.toNat) (k := 16) g1
    by_cases h2 : 256#32 ≤ a >>> 16
    · have g2 : 256 ≤ (a >>> 16).toNat := h2
      rw [s16] at g2
      have l2 := lenN_shift (n := a.toNat >>> 16) (k := 8) g2
      rw [← Nat.shiftRight_add] at l2
      have f := fin (a >>> 24) 24 (by rw [s24, Nat.shiftRight_eq_div_pow]; omega) (by omega)
      rw [s24] at f
      simp at f
      simp (maxSteps:=9^7)(disch:=first|assumption|((try simp only[nX]);omega)|simp) [h1, h2, len8, f]
      rw [l1, l2]
      simp [← Int.add_assoc]
    · have g2 : ¬ 256 ≤ (a >>> 16).toNat := h2
      have f := fin (a >>> 16) 16 (by omega) (by omega)
      rw [s16] at f
      simp at f
      simp (maxSteps:=9^7)(disch:=first|assumption|((try simp only[nX]);omega)|simp) [h1, h2, len8, f]
      rw [l1]
      simp
  · have g1 : ¬ 65536 ≤ a.toNat := h1
    by_cases h2 : 256#32 ≤ a
    · have g2 : 256 ≤ a.toNat := h2
      have l1 := lenN_shift (n := a.toNat) (k := 8) g2
      have f := fin (a >>> 8) 8 (by rw [s8, Nat.shiftRight_eq_div_pow]; omega) (by omega)
      rw [s8] at f
      simp at f
      simp (maxSteps:=9^7)(disch:=first|assumption|((try simp only[nX]);omega)|simp) [h1, h2, len8, f]
      rw [l1]
      simp
    · have g2 : ¬ 256 ≤ a.toNat := h2
      have f := fin a 0 (by omega) (by omega)
      simp at f
      simp (maxSteps:=9^7)(disch:=first|assumption|((try simp only[nX]);omega)|simp) [h1, h2, len8, f]
theorem lz32 : WC T n_0x [u32 a] h q ↔ q (.int .i64 (clz a)) h := by
  have h1 := lenN_le (n := a.toNat) (k := 32) (by have := a.isLt; omega)
  have e : IntKind.i64.wrap (32 - (lenN a.toNat : Int)) = (clz a : Int) := by
    rw [wrap_i64 (by omega) (by omega)]
    unfold clz
    omega
  rw [w_0x]
  simp (maxSteps:=9^7)(disch:=first|assumption|((try simp only[nX]);omega)|simp) [GC_of (fun q => len32), e, -wrap_i64]
theorem word_clz : WC T n_52 [u32 a] h q ↔ q (.int .i64 (clz a)) h := by
  rw [w_52]
  simp (maxSteps:=9^7)(disch:=first|assumption|((try simp only[nX]);omega)|simp) [GC_of (fun q => lz32)]
theorem word_clo : WC T n_51 [u32 a] h q ↔ q (.int .i64 (clz (~~~ a))) h := by
  rw [w_51]
  simp (maxSteps:=9^7)(disch:=first|assumption|((try simp only[nX]);omega)|simp) [GC_of (fun q => lz32)]
end
section
attribute [local congr] ite_ctx
variable {h : Hp} {q : Value → Hp → Prop} {a b : BitVec 32} {o : IOp}
theorem ir_right0 : WC T n_0n [.agg (encOp.enc o).toArray] h fun v h' => v = .bool (decide o.ok) ∧ h' = (h.push (.cells false (encOp.enc o))).push (.cells false [.int .i64 o.d, .int .i64 o.a, .int .i64 o.b]) := by
  rw [w_0n]
  simp (maxSteps := 1000000) +contextual (disch:=first|assumption|((try simp only[nX]);omega)|simp) [-GG_bool, -GGI_bool, -GB_bool, GG_t, GG_f, GGI_t, GGI_f, GB_b, GB_n, GG_tn, GG_fn, encOp]
  generalize hH : (h.push (Ob.cells false [Value.int IntKind.i64 o.k, Value.int IntKind.i64 o.d, Value.int IntKind.i64 o.a, Value.int IntKind.i64 o.b, u32 o.imm])).push (Ob.cells false [Value.int IntKind.i64 o.d, Value.int IntKind.i64 o.a, Value.int IntKind.i64 o.b]) = H
  have g0 : H.get h.next = some (.cells false [Value.int IntKind.i64 o.k, Value.int IntKind.i64 o.d, Value.int IntKind.i64 o.a, Value.int IntKind.i64 o.b, u32 o.imm]) := by rw [← hH, get_push_ne (by simp), get_push_self]
  have g1 : H.get (h.next + 1) = some (.cells false [Value.int IntKind.i64 o.d, Value.int IntKind.i64 o.a, Value.int IntKind.i64 o.b]) := by
    rw [← hH]; exact get_push_self (h := h.push _)
  refine G_loop (fun n e h' => ∃ j : Nat, n = 3 - j ∧ j ≤ 3 ∧ h' = H ∧ e 1 = ptr h.next 0 ∧ e 11 = .slice (some ⟨h.next + 1, 0, none⟩) 3 3 ∧ e 12 = .int .i64 3 ∧ e 13 = .int .i64 j ∧ (0 < j → 0 ≤ o.d ∧ o.d < 40) ∧ (1 < j → 0 ≤ o.a ∧ o.a < 40) ∧ (2 < j → 0 ≤ o.b ∧ o.b < 40)) ?_ 3 _ _ ⟨0, by simp⟩
  rintro n ih e h' ⟨j, rfl, hj, rfl, e1, e11, e12, e13, i0, i1, i2⟩
  have hj' : j = 0 ∨ j = 1 ∨ j = 2 ∨ j = 3 := by omega
  rcases hj' with rfl | rfl | rfl | rfl
  · by_cases d0 : o.d < 0
    · have : ¬ o.ok := fun hh => by have := hh.1.1; omega
      simp (maxSteps := 1000000) +contextual (disch:=first|assumption|((try simp only[nX]);omega)|simp) [-GG_bool, -GGI_bool, -GB_bool, GG_t, GG_f, GGI_t, GGI_f, GB_b, GB_n, GG_tn, GG_fn, e1, e11, e12, e13, g0, g1, d0, this]
    by_cases d1 : 40 ≤ o.d
    · have : ¬ o.ok := fun hh => by have := hh.1.2; omega
      simp (maxSteps := 1000000) +contextual (disch:=first|assumption|((try simp only[nX]);omega)|simp) [-GG_bool, -GGI_bool, -GB_bool, GG_t, GG_f, GGI_t, GGI_f, GB_b, GB_n, GG_tn, GG_fn, e1, e11, e12, e13, g0, g1, d0, d1, this]
    simp (maxSteps := 1000000) +contextual (disch:=first|assumption|((try simp only[nX]);omega)|simp) [-GG_bool, -GGI_bool, -GB_bool, GG_t, GG_f, GGI_t, GGI_f, GB_b, GB_n, GG_tn, GG_fn, e1, e11, e12, e13, g0, g1, d0, d1]
    exact ih 2 (by omega) _ _ ⟨1, by simp [e1, e11, e12, e13]; omega⟩
  · by_cases d0 : o.a < 0
    · have : ¬ o.ok := fun hh => by have := hh.2.1.1; omega
      simp (maxSteps := 1000000) +contextual (disch:=first|assumption|((try simp only[nX]);omega)|simp) [-GG_bool, -GGI_bool, -GB_bool, GG_t, GG_f, GGI_t, GGI_f, GB_b, GB_n, GG_tn, GG_fn, e1, e11, e12, e13, g0, g1, d0, this]
    by_cases d1 : 40 ≤ o.a
    · have : ¬ o.ok := fun hh => by have := hh.2.1.2; omega
      simp (maxSteps := 1000000) +contextual (disch:=first|assumption|((try simp only[nX]);omega)|simp) [-GG_bool, -GGI_bool, -GB_bool, GG_t, GG_f, GGI_t, GGI_f, GB_b, GB_n, GG_tn, GG_fn, e1, e11, e12, e13, g0, g1, d0, d1, this]
    simp (maxSteps := 1000000) +contextual (disch:=first|assumption|((try simp only[nX]);omega)|simp) [-GG_bool, -GGI_bool, -GB_bool, GG_t, GG_f, GGI_t, GGI_f, GB_b, GB_n, GG_tn, GG_fn, e1, e11, e12, e13, g0, g1, d0, d1]
    exact ih 1 (by omega) _ _ ⟨2, by simp [e1, e11, e12, e13]; omega⟩
  · by_cases d0 : o.b < 0
    · have : ¬ o.ok := fun hh => by have := hh.2.2.1.1; omega
      simp (maxSteps := 1000000) +contextual (disch:=first|assumption|((try simp only[nX]);omega)|simp) [-GG_bool, -GGI_bool, -GB_bool, GG_t, GG_f, GGI_t, GGI_f, GB_b, GB_n, GG_tn, GG_fn, e1, e11, e12, e13, g0, g1, d0, this]
    by_cases d1 : 40 ≤ o.b
    · have : ¬ o.ok := fun hh => by have := hh.2.2.1.2; omega
      simp (maxSteps := 1000000) +contextual (disch:=first|assumption|((try simp only[nX]);omega)|simp) [-GG_bool, -GGI_bool, -GB_bool, GG_t, GG_f, GGI_t, GGI_f, GB_b, GB_n, GG_tn, GG_fn, e1, e11, e12, e13, g0, g1, d0, d1, this]
    simp (maxSteps := 1000000) +contextual (disch:=first|assumption|((try simp only[nX]);omega)|simp) [-GG_bool, -GGI_bool, -GB_bool, GG_t, GG_f, GGI_t, GGI_f, GB_b, GB_n, GG_tn, GG_fn, e1, e11, e12, e13, g0, g1, d0, d1]
    exact ih 0 (by omega) _ _ ⟨3, by simp [e1, e11, e12, e13]; omega⟩
  · have j0 := i0 (by omega)
    have j1 := i1 (by omega)
    have j2 := i2 (by omega)
    by_cases k0 : 0 ≤ o.k
    · by_cases k1 : o.k ≤ 22 <;> simp (maxSteps := 1000000) +contextual (disch:=first|assumption|((try simp only[nX]);omega)|simp) [-GG_bool, -GGI_bool, -GB_bool, GG_t, GG_f, GGI_t, GGI_f, GB_b, GB_n, GG_tn, GG_fn, e1, e11, e12, e13, g0, g1, k0, k1, IOp.ok, j0, j1, j2]
    · simp (maxSteps := 1000000) +contextual (disch:=first|assumption|((try simp only[nX]);omega)|simp) [-GG_bool, -GGI_bool, -GB_bool, GG_t, GG_f, GGI_t, GGI_f, GB_b, GB_n, GG_tn, GG_fn, e1, e11, e12, e13, g0, g1, k0, IOp.ok, j0, j1, j2]
theorem ir_right : WC T n_0n [.agg (encOp.enc o).toArray] h q ↔ q (.bool (decide o.ok)) ((h.push (.cells false (encOp.enc o))).push (.cells false [.int .i64 o.d, .int .i64 o.a, .int .i64 o.b])) := WC_iff ir_right0 q
theorem ref_right : WC T n_2k [.agg (encOp.enc o).toArray] h q ↔ q (.bool (decide o.ok)) (h.push (.cells false (encOp.enc o))) := by
  rw [w_2k]
  simp (maxSteps := 1000000) +contextual (disch:=first|assumption|((try simp only[nX]);omega)|simp) [-GG_bool, -GGI_bool, -GB_bool, GG_t, GG_f, GGI_t, GGI_f, GB_b, GB_n, GG_tn, GG_fn, encOp]
  by_cases k0 : 0 ≤ o.k <;> by_cases k1 : o.k ≤ 22 <;> by_cases d0 : 0 ≤ o.d <;> by_cases d1 : o.d < 40 <;> by_cases a0 : 0 ≤ o.a <;> by_cases a1 : o.a < 40 <;> by_cases b0 : 0 ≤ o.b <;> simp [IOp.ok, *]
theorem and_31n (n : Nat) : n &&& 31 = n % 32 := Nat.and_two_pow_sub_one_eq_mod n 5
theorem mod_32n (n : Nat) : (((n % 32 : Nat) : Int) % 32).toNat = n % 32 := by omega
theorem of_kinds (k : Int) : k = 1 ∨ k = 3 ∨ k = 4 ∨ k = 5 ∨ k = 6 ∨ k = 7 ∨ k = 8 ∨ k = 9 ∨ k = 10 ∨ k = 11 ∨ k = 12 ∨ k = 13 ∨ k = 14 ∨ k = 15 ∨ k = 16 ∨ (k ≠ 1 ∧ k ≠ 3 ∧ k ≠ 4 ∧ k ≠ 5 ∧ k ≠ 6 ∧ k ≠ 7 ∧ k ≠ 8 ∧ k ≠ 9 ∧ k ≠ 10 ∧ k ≠ 11 ∧ k ≠ 12 ∧ k ≠ 13 ∧ k ≠ 14 ∧ k ≠ 15 ∧ k ≠ 16) := by omega
theorem ir_of : WC T n_0r [.agg (encOp.enc o).toArray, u32 a, u32 b] h q ↔ q (u32 (iof o a b)) (h.push (.cells false (encOp.enc o))) := by
  rw [w_0r]
  rcases of_kinds o.k with hk | hk | hk | hk | hk | hk | hk | hk | hk | hk | hk | hk | hk | hk | hk | hk <;>
  simp (maxSteps:=9^7)(disch:=first|assumption|((try simp only[nX]);omega)|simp) [encOp, hk, iof, GC_of (fun q => word_sar), GC_of (fun q => word_less), GC_of (fun q => ir_one), GC_of (fun q => word_clz), GC_of (fun q => word_clo), and_31n, mod_32n, -Int.natCast_emod]
end
end Go.Proofs.YtmgoleiafiffoaaGreat.Cd

/- Small operations done one by one. -/
set_option maxRecDepth 1000000
set_option maxHeartbeats 4000000
set_option linter.unusedSimpArgs false
set_option linter.unusedVariables false
namespace Go.Proofs.YtmgoleiafiffoaaGreat.Cd
open Go Go.Dx
section
variable {h : Hp} {q : Value → Hp → Prop} {a b : BitVec 32} {o : IOp} {R : Regs} {c : Nat}
theorem upd_one {g h : Hp} {c : Nat} {C : Option Ob} (hg : ∀ b, b < h.next → b ≠ c → g.get b = h.get b) (hn : h.next ≤ g.next) : Upd h (g.put c C) [c] [c] := ⟨by simp; exact hn, fun b hb hbc => by
    simp at hbc
    rw [get_put_ne hbc]; exact hg b hb hbc, fun b hb => .inl hb⟩
theorem ir_doK {P : List Value} {k : Nat} (hk : P.length = k) (ho : o.ok) (hR : R.length = 40) (hg0 : h.get c = some (.cells false (P ++ R.map u32))) (hq : ∀ h', h'.get c = some (.cells false (P ++ (ido R o).map u32)) → Upd h h' [c] [c] → q (.tuple #[]) h') :
    WC T n_0m [ptr c k, .agg (encOp.enc o).toArray] h q := by
  obtain ⟨⟨d0, d1⟩, ⟨a0, a1⟩, ⟨b0, b1⟩, k0, k1⟩ := id ho
  obtain ⟨X, hXe⟩ : ∃ X, X = P ++ R.map u32 := ⟨_, rfl⟩
  have hX : X.length = k + 40 := by rw [hXe]; simp [hk, hR]
  have hg : h.get c = some (.cells false X) := by rw [hXe]; exact hg0
  have hat : ∀ i : Int, 0 ≤ i → i < 40 → X[k + i.toNat]? = some (u32 (rg R i)) := fun i h0 h1 => by
    rw [hXe, List.getElem?_append_right (by omega), ← hk, Nat.add_sub_cancel_left, List.getElem?_map, rg_at h0 (by omega)]; rfl
  have hset : ∀ (n : Nat) (v : BitVec 32) (Q : List Value), (P ++ Q).set (k + n) (u32 v) = P ++ Q.set n (u32 v) := fun n v Q => by
    rw [List.set_append_right _ _ (by omega), ← hk, Nat.add_sub_cancel_left]
  have hlt := lt_of_get hg
  have hat2 : ∀ i : Int, 0 ≤ i → i < 40 → ∀ hh : k + i.toNat < X.length, X[k + i.toNat]'hh = u32 (rg R i) := fun i h0 h1 hh => by
    have := hat i h0 h1
    rw [List.getElem?_eq_getElem hh] at this
    simpa using this
  have ra := hat2 o.a a0 a1
  have rb := hat2 o.b b0 b1
  have o1 := fun (l : List Value) n v => over_set (l := l) (i := n) (v := v)
  have dl : o.d ≤ 39 := by omega
  have dl' : o.d.toNat < 40 := by omega
  rw [w_0m]
  have fact : ∀ (g : Hp) (C : List Value), (∀ b, b < h.next → b ≠ c → g.get b = h.get b) → h.next ≤ g.next → C = P ++ (ido R o).map u32 → q (.tuple #[]) (g.put c (some (.cells false C))) := fun g C h1 h2 h3 => by
    subst h3
    exact hq _ (get_put_self (by omega)) (upd_one h1 h2)
  have cases4 : (o.k = 17 ∨ o.k = 18) ∨ (o.k = 19 ∨ o.k = 20) ∨ ((o.k ≠ 17 ∧ o.k ≠ 18 ∧ o.k ≠ 19 ∧ o.k ≠ 20) ∧ (o.k = 0 ∨ o.d = 0 ∨ (o.k = 21 ∧ rg R o.b ≠ 0#32) ∨ (o.k = 22 ∧ rg R o.b = 0#32))) ∨ ((o.k ≠ 17 ∧ o.k ≠ 18 ∧ o.k ≠ 19 ∧ o.k ≠ 20) ∧ ¬ (o.k = 0 ∨ o.d = 0 ∨ (o.k = 21 ∧ rg R o.b ≠ 0#32) ∨ (o.k = 22 ∧ rg R o.b = 0#32))) := by
    by_cases h1 : o.k = 17 ∨ o.k = 18
    · exact .inl h1
    by_cases h2 : o.k = 19 ∨ o.k = 20
    · exact .inr (.inl h2)
    by_cases h3 : o.k = 0 ∨ o.d = 0 ∨ (o.k = 21 ∧ rg R o.b ≠ 0#32) ∨ (o.k = 22 ∧ rg R o.b = 0#32)
    · exact .inr (.inr (.inl ⟨by omega, h3⟩))
    · exact .inr (.inr (.inr ⟨by omega, h3⟩))
  rcases cases4 with hk' | hk' | ⟨hk', hs⟩ | ⟨hk', hs⟩
  · rcases hk' with hk' | hk' <;>
    · simp (maxSteps:=9^7)(disch:=first|assumption|((try simp only[nX]);omega)|simp) [encOp, hk', hg, ra, rb, hR, hX, -over, o1, GC_of (fun q => word_mul)]
      refine fact _ _ ?_ ?_ ?_
      · intro b hb hbc; rw [get_push_ne (by omega)]
      · simp
      · rw [hXe]; simp [ido, hk', hset]
  · rcases hk' with hk' | hk' <;>
    · simp (maxSteps:=9^7)(disch:=first|assumption|((try simp only[nX]);omega)|simp) [encOp, hk', hg, ra, rb, hR, hX, -over, o1, GC_of (fun q => word_div)]
      refine fact _ _ ?_ ?_ ?_
      · intro b hb hbc; rw [get_push_ne (by omega)]
      · simp
      · rw [hXe]; simp [ido, hk', hset]
  · have hd : ido R o = R := by unfold ido; rw [if_neg (by omega), if_neg (by omega), if_pos hs]
    have fin' : q (.tuple #[]) (h.push (.cells false (encOp.enc o))) := hq _ (by rw [get_push_ne (by omega), hg0, hd]) ⟨by simp, fun b hb _ => get_push_ne (by omega), fun b hb => .inl hb⟩
    simp only [encOp] at fin'
    by_cases z0 : o.k = 0
    · simp (maxSteps:=9^7)(disch:=first|assumption|((try simp only[nX]);omega)|simp) [encOp, z0, hg, ra, rb, hR, hX, -over]
      simpa [z0] using fin'
    by_cases z1 : o.d = 0
    · simp (maxSteps:=9^7)(disch:=first|assumption|((try simp only[nX]);omega)|simp) [encOp, z0, z1, hk', hg, ra, rb, hR, hX, -over]
      simpa [z1] using fin'
    rcases hs with hs | hs | ⟨z2, z3⟩ | ⟨z2, z3⟩
    · exact absurd hs z0
    · exact absurd hs z1
    · simp (maxSteps:=9^7)(disch:=first|assumption|((try simp only[nX]);omega)|simp) [encOp, z1, z2, z3, hg, ra, rb, hR, hX, -over]
      simpa [z2] using fin'
    · simp (maxSteps:=9^7)(disch:=first|assumption|((try simp only[nX]);omega)|simp) [encOp, z1, z2, z3, hg, ra, rb, hR, hX, -over]
      simpa [z2] using fin'
  · have hd : ido R o = R.set o.d.toNat (iof o (rg R o.a) (rg R o.b)) := by unfold ido; rw [if_neg (by omega), if_neg (by omega), if_neg hs]
    have z0 : o.k ≠ 0 := fun hh => hs (.inl hh)
    have z1 : o.d ≠ 0 := fun hh => hs (.inr (.inl hh))
    have done : ∀ (g : Hp) (C : List Value), g = ((h.push (.cells false (encOp.enc o))).push (.cells false (encOp.enc o))) → C = P ++ (R.set o.d.toNat (iof o (rg R o.a) (rg R o.b))).map u32 → q (.tuple #[]) (g.put c (some (.cells false C))) := fun g C e1 e2 => by
      subst e1
      exact fact _ _ (fun b hb hbc => by rw [get_push_ne (by simp; omega), get_push_ne (by omega)]) (by simp; omega) (by rw [e2, hd])
    have irof := fun (h : Hp) (q : Value → Hp → Prop) (a b : BitVec 32) => ir_of (h := h) (q := q) (a := a) (b := b) (o := o)
    simp only [encOp] at irof
    by_cases z2 : o.k = 21 ∨ o.k = 22
    · by_cases z3 : rg R o.b = 0#32
      · have z4 : o.k = 21 := by
          rcases z2 with z2 | z2
          · exact z2
          · exact absurd (.inr (.inr (.inr ⟨z2, z3⟩))) hs
        simp only [z4] at irof done
        simp (maxSteps:=9^7)(disch:=first|assumption|((try simp only[nX]);omega)|simp) [encOp, z4, z1, z3, hg, ra, rb, hR, hX, dl, Hp.rdn, -over, o1, GCI_of (fun q => irof _ q _ _), GC_of (fun q => irof _ q _ _)]
        refine done _ _ ?_ ?_
        · simp [encOp, z4]
        · rw [hXe]; simp [z3, hset]
      · have z4 : o.k = 22 := by
          rcases z2 with z2 | z2
          · exact absurd (.inr (.inr (.inl ⟨z2, z3⟩))) hs
          · exact z2
        simp only [z4] at irof done
        simp (maxSteps:=9^7)(disch:=first|assumption|((try simp only[nX]);omega)|simp) [encOp, z4, z1, z3, hg, ra, rb, hR, hX, dl, Hp.rdn, -over, o1, GCI_of (fun q => irof _ q _ _), GC_of (fun q => irof _ q _ _)]
        refine done _ _ ?_ ?_
        · simp [encOp, z4]
        · rw [hXe]; simp [hset]
    · have z3 : o.k ≠ 21 ∧ o.k ≠ 22 := by omega
      simp (maxSteps:=9^7)(disch:=first|assumption|((try simp only[nX]);omega)|simp) [encOp, hk', z0, z1, z3, hg, ra, rb, hR, hX, dl, Hp.rdn, -over, o1, GCI_of (fun q => irof _ q _ _), GC_of (fun q => irof _ q _ _)]
      refine done _ _ ?_ ?_
      · simp [encOp]
      · rw [hXe]; simp [hset]
end
end Go.Proofs.YtmgoleiafiffoaaGreat.Cd

/- Is there one in a row? -/
set_option maxRecDepth 1000000
set_option maxHeartbeats 4000000
set_option linter.unusedSimpArgs false
set_option linter.unusedVariables false
namespace Go.Proofs.YtmgoleiafiffoaaGreat.Cd
open Go Go.Dx
section
variable {h : Hp} {a : Option Addr} {c fc : Nat} {caps : Array Value} {xs : List IOp} {p : IOp → Bool} {q : Value → Hp → Prop}
theorem indexF_op (hs : Sees encOp h a xs) (hb : xs.length < 2 ^ 63) (hc : ∀ x ∈ xs, ∀ h1, Kp h h1 → WC T fc ([.agg (encOp.enc x).toArray] ++ caps.toList) h1 fun v h2 => v = .bool (p x) ∧ Kp h1 h2) :
    WC T n_4j [.slice a xs.length c, .func (.func fc) #[] caps] h fun v h' => v = .int .i64 (fidx p xs 0) ∧ Kp h h' := by
  rw [w_4j]
  simp (maxSteps:=9^7)(disch:=first|assumption|((try simp only[nX]);omega)|simp)
  refine G_loop (fun n e h' => ∃ us vs, n = vs.length ∧ xs = us ++ vs ∧ (∀ x ∈ us, p x = false) ∧ Kp h h' ∧ e 0 = .slice a xs.length c ∧ e 1 = .func (.func fc) #[] caps ∧ e 7 = .int .i64 xs.length ∧ e 8 = .int .i64 us.length) ?_ xs.length _ _ ⟨[], xs, rfl, rfl, by simp, .refl _, by simp, by simp, by simp, by simp⟩
  rintro n ih e h' ⟨us, vs, rfl, hx, hu, K, e0, e1, e7, e8⟩
  cases vs with
  | nil =>
    have hl : xs.length = us.length := by rw [hx]; simp
    have hf : fidx p xs 0 = -1 := by rw [hx, fidx_skip p us [] 0 hu]; rfl
    simp (maxSteps:=9^7)(disch:=first|assumption|((try simp only[nX]);omega)|simp) [e0, e1, e7, e8, hl]
    exact ⟨hf.symm, K⟩
  | cons x vs =>
    have hl : us.length < xs.length := by rw [hx]; simp
    have hl' : (us.length : Int) < xs.length := by omega
    obtain ⟨A, rfl, hr⟩ := Sees.mid (A := us) (x := x) (B := vs) (by rw [← hx]; exact hs)
    have hr' : h'.rdn A.block (A.off + us.length * 5) 5 = some (encOp.enc x) := rdn_kp hr (K.get _ (lt_of_rdn hr))
    
    simp (maxSteps:=9^7)(disch:=first|assumption|((try simp only[nX]);omega)|simp) [e0, e1, e7, e8, hl', hr']
    refine GC_intro (hc x (by rw [hx]; simp) h' K) fun v h2 ⟨hv, K2⟩ => ?_
    subst hv
    by_cases hp : p x = true
    · have hf : fidx p xs 0 = us.length := by rw [hx, fidx_skip p us _ 0 hu]; simp [fidx, hp]
      simp (maxSteps:=9^7)(disch:=first|assumption|((try simp only[nX]);omega)|simp) [hp]
      exact ⟨hf.symm, K.trans K2⟩
    · simp (maxSteps:=9^7)(disch:=first|assumption|((try simp only[nX]);omega)|simp) [hp, e8]
      refine ih vs.length (by simp) _ _ ⟨us ++ [x], vs, rfl, by rw [hx]; simp, fun y hy => ?_, K.trans K2, by simp [e0], by simp [e1], by simp [e7], by simp⟩
      rcases List.mem_append.1 hy with h1 | h1
      · exact hu y h1
      · simp at h1; subst h1; simpa using hp
theorem contains_op (hs : Sees encOp h a xs) (hb : xs.length < 2 ^ 63) (hc : ∀ x ∈ xs, ∀ h1, Kp h h1 → WC T fc ([.agg (encOp.enc x).toArray] ++ caps.toList) h1 fun v h2 => v = .bool (p x) ∧ Kp h1 h2) :
    WC T n_4h [.slice a xs.length c, .func (.func fc) #[] caps] h fun v h' => v = .bool (xs.any p) ∧ Kp h h' := by
  rw [w_4h]
  simp (maxSteps:=9^7)(disch:=first|assumption|((try simp only[nX]);omega)|simp)
  refine GC_intro (indexF_op hs hb hc) fun v h2 ⟨hv, K2⟩ => ?_
  subst hv
  simp (maxSteps:=9^7)(disch:=first|assumption|((try simp only[nX]);omega)|simp) [fidx_any]
  exact K2
end
end Go.Proofs.YtmgoleiafiffoaaGreat.Cd

/- Is there one in a row? -/
set_option maxRecDepth 1000000
set_option maxHeartbeats 4000000
set_option linter.unusedSimpArgs false
set_option linter.unusedVariables false
namespace Go.Proofs.YtmgoleiafiffoaaGreat.Cd
open Go Go.Dx
section
variable {h : Hp} {a : Option Addr} {c fc : Nat} {caps : Array Value} {xs : List Int} {p : Int → Bool} {q : Value → Hp → Prop}
theorem indexF_int (hs : Sees encZ h a xs) (hb : xs.length < 2 ^ 63) (hc : ∀ x ∈ xs, ∀ h1, Kp h h1 → WC T fc ([.int .i64 x] ++ caps.toList) h1 fun v h2 => v = .bool (p x) ∧ Kp h1 h2) :
    WC T n_4i [.slice a xs.length c, .func (.func fc) #[] caps] h fun v h' => v = .int .i64 (fidx p xs 0) ∧ Kp h h' := by
  rw [w_4i]
  simp (maxSteps:=9^7)(disch:=first|assumption|((try simp only[nX]);omega)|simp)
  refine G_loop (fun n e h' => ∃ us vs, n = vs.length ∧ xs = us ++ vs ∧ (∀ x ∈ us, p x = false) ∧ Kp h h' ∧ e 0 = .slice a xs.length c ∧ e 1 = .func (.func fc) #[] caps ∧ e 7 = .int .i64 xs.length ∧ e 8 = .int .i64 us.length) ?_ xs.length _ _ ⟨[], xs, rfl, rfl, by simp, .refl _, by simp, by simp, by simp, by simp⟩
  rintro n ih e h' ⟨us, vs, rfl, hx, hu, K, e0, e1, e7, e8⟩
  cases vs with
  | nil =>
    have hl : xs.length = us.length := by rw [hx]; simp
    have hf : fidx p xs 0 = -1 := by rw [hx, fidx_skip p us [] 0 hu]; rfl
    simp (maxSteps:=9^7)(disch:=first|assumption|((try simp only[nX]);omega)|simp) [e0, e1, e7, e8, hl]
    exact ⟨hf.symm, K⟩
  | cons x vs =>
    have hl : us.length < xs.length := by rw [hx]; simp
    have hl' : (us.length : Int) < xs.length := by omega
    obtain ⟨A, rfl, hr⟩ := Sees.mid (A := us) (x := x) (B := vs) (by rw [← hx]; exact hs)
    have hr' : h'.rdn A.block (A.off + us.length * 1) 1 = some (encZ.enc x) := rdn_kp hr (K.get _ (lt_of_rdn hr))
    obtain ⟨ro, C, hg, hC⟩ := rdn_cells hr'
    have hC0 := hC 0 (by decide)
    simp [encZ] at hC0
    simp (maxSteps:=9^7)(disch:=first|assumption|((try simp only[nX]);omega)|simp) [e0, e1, e7, e8, hl', hg, hC0]
    refine GC_intro (hc x (by rw [hx]; simp) h' K) fun v h2 ⟨hv, K2⟩ => ?_
    subst hv
    by_cases hp : p x = true
    · have hf : fidx p xs 0 = us.length := by rw [hx, fidx_skip p us _ 0 hu]; simp [fidx, hp]
      simp (maxSteps:=9^7)(disch:=first|assumption|((try simp only[nX]);omega)|simp) [hp]
      exact ⟨hf.symm, K.trans K2⟩
    · simp (maxSteps:=9^7)(disch:=first|assumption|((try simp only[nX]);omega)|simp) [hp, e8]
      refine ih vs.length (by simp) _ _ ⟨us ++ [x], vs, rfl, by rw [hx]; simp, fun y hy => ?_, K.trans K2, by simp [e0], by simp [e1], by simp [e7], by simp⟩
      rcases List.mem_append.1 hy with h1 | h1
      · exact hu y h1
      · simp at h1; subst h1; simpa using hp
theorem contains_int (hs : Sees encZ h a xs) (hb : xs.length < 2 ^ 63) (hc : ∀ x ∈ xs, ∀ h1, Kp h h1 → WC T fc ([.int .i64 x] ++ caps.toList) h1 fun v h2 => v = .bool (p x) ∧ Kp h1 h2) :
    WC T n_4g [.slice a xs.length c, .func (.func fc) #[] caps] h fun v h' => v = .bool (xs.any p) ∧ Kp h h' := by
  rw [w_4g]
  simp (maxSteps:=9^7)(disch:=first|assumption|((try simp only[nX]);omega)|simp)
  refine GC_intro (indexF_int hs hb hc) fun v h2 ⟨hv, K2⟩ => ?_
  subst hv
  simp (maxSteps:=9^7)(disch:=first|assumption|((try simp only[nX]);omega)|simp) [fidx_any]
  exact K2
end
end Go.Proofs.YtmgoleiafiffoaaGreat.Cd

/- Rows of small operations: what the program does with them. -/
set_option maxRecDepth 1000000
set_option maxHeartbeats 4000000
set_option linter.unusedSimpArgs false
set_option linter.unusedVariables false
namespace Go.Proofs.YtmgoleiafiffoaaGreat.Cd
open Go Go.Dx
section
variable {h : Hp} {q : Value → Hp → Prop} {o : IOp} {R : Regs} {c cp : Nat} {a : Option Addr} {L : List IOp}
theorem run_1 : WC T n_0p [.agg (encOp.enc o).toArray] h fun v h' => v = .bool (!decide o.ok) ∧ Kp h h' := by
  rw [w_0p]
  simp (maxSteps:=9^7)(disch:=first|assumption|((try simp only[nX]);omega)|simp) [encOp, Hp.rdn]
  refine GC_intro ((ir_right (o := o) (q := fun v h' => v = .bool (decide o.ok) ∧ Kp h h')).2 ⟨rfl, ?_⟩) fun v h2 ⟨hv, K⟩ => ?_
  · exact (((Kp.refl h).push _).push _).push _
  · subst hv
    simp (maxSteps:=9^7)(disch:=first|assumption|((try simp only[nX]);omega)|simp)
    exact K
theorem notok_any : (L.any fun o => !decide o.ok) = !decide (oks L) := by
  by_cases h : oks L
  · simp only [h, decide_true, Bool.not_true]
    rw [Bool.eq_false_iff]
    intro h1
    obtain ⟨o, h2, h3⟩ := List.any_eq_true.1 h1
    simp [h o h2] at h3
  · simp only [h, decide_false, Bool.not_false]
    apply Classical.byContradiction
    intro h1
    apply h
    intro o ho
    apply Classical.byContradiction
    intro h2
    exact h1 (List.any_eq_true.2 ⟨o, ho, by simp [h2]⟩)
theorem ir_contains (hs : Sees encOp h a L) (hb : L.length < 2 ^ 63) : WC T n_4h [.slice a L.length cp, .func (.func n_0p) #[] #[]] h fun v h' => v = .bool (!decide (oks L)) ∧ Kp h h' := by
  have := contains_op (c := cp) (fc := n_0p) (caps := #[]) (p := fun o => !decide o.ok) hs hb fun x _ h1 _ => run_1
  rw [notok_any] at this
  exact this
theorem ir_runK {P : List Value} {k : Nat} (hk : P.length = k) (hR : R.length = 40) (hg : h.get c = some (.cells false (P ++ R.map u32))) (hs : Sees encOp h a L) (hac : ∀ A, a = some A → A.block ≠ c) (hb : L.length < 2 ^ 63)
    (hq : ∀ h', h'.get c = some (.cells false (P ++ (if oks L then irun (R.set 0 0#32) L else R).map u32)) → Upd h h' [c] [c] → q (.bool (decide (oks L))) h') : WC T n_0o [ptr c k, .slice a L.length cp] h q := by
  have hlt := lt_of_get hg
  rw [w_0o]
  simp (maxSteps:=9^7)(disch:=first|assumption|((try simp only[nX]);omega)|simp)
  refine GC_intro (ir_contains hs hb) fun v h1 ⟨hv, K1⟩ => ?_
  subst hv
  have hg1 : h1.get c = some (.cells false (P ++ R.map u32)) := by rw [K1.get c hlt, hg]
  have hlt1 := lt_of_get hg1
  by_cases hok : oks L
  case neg =>
    simp (maxSteps:=9^7)(disch:=first|assumption|((try simp only[nX]);omega)|simp) [hok]
    have := hq h1 (by rw [if_neg hok, hg1]) (K1.upd _)
    simpa [hok] using this
  rw [if_pos hok] at hq
  simp only [hok, decide_true] at hq ⊢
  have o1 := fun (l : List Value) n v => over_set (l := l) (i := n) (v := v)
  simp (maxSteps:=9^7)(disch:=first|assumption|((try simp only[nX]);omega)|simp) [hg1, -over, o1, hR, hk]
  have U0 : Upd h (h1.put c (some (.cells false (P ++ (R.map u32).set 0 (u32 0#32))))) [c] [c] := (K1.upd _).put1
  refine G_loop (fun n e h' => ∃ us vs, n = vs.length ∧ L = us ++ vs ∧ Upd h h' [c] [c] ∧ h'.get c = some (.cells false (P ++ (irun (R.set 0 0#32) us).map u32)) ∧ e 0 = ptr c k ∧ e 16 = .slice a L.length cp ∧ e 17 = .int .i64 L.length ∧ e 18 = .int .i64 us.length) ?_ L.length _ _ ⟨[], L, rfl, rfl, U0, ?_, by simp, by simp, by simp, by simp⟩
  case refine_2 => rw [get_put_self hlt1]; simp
  rintro n ih e h' ⟨us, vs, rfl, hx, U, hgc, e0, e16, e17, e18⟩
  cases vs with
  | nil =>
    have hl : L.length = us.length := by rw [hx]; simp
    have hL : L = us := by rw [hx]; simp
    simp (maxSteps:=9^7)(disch:=first|assumption|((try simp only[nX]);omega)|simp) [e0, e16, e17, e18, hl]
    refine hq _ ?_ U
    rw [hgc, hL]
  | cons o vs =>
    have hl : us.length < L.length := by rw [hx]; simp
    have hl' : (us.length : Int) < L.length := by omega
    obtain ⟨A, rfl, hr⟩ := Sees.mid (A := us) (x := o) (B := vs) (by rw [← hx]; exact hs)
    have hr' : h'.rdn A.block (A.off + us.length * 5) 5 = some [.int .i64 o.k, .int .i64 o.d, .int .i64 o.a, .int .i64 o.b, u32 o.imm] := rdn_kp hr (U.get _ (lt_of_rdn hr) (by simpa using hac A rfl))
    simp (maxSteps:=9^7)(disch:=first|assumption|((try simp only[nX]);omega)|simp) [e0, e16, e17, e18, hl', hr']
    generalize hh1 : h'.push (Ob.cells false [.int .i64 o.k, .int .i64 o.d, .int .i64 o.a, .int .i64 o.b, u32 o.imm]) = h1
    have hltc := lt_of_get hgc
    have y0 : h1.get h'.next = some (.cells false [.int .i64 o.k, .int .i64 o.d, .int .i64 o.a, .int .i64 o.b, u32 o.imm]) := by
      rw [← hh1, get_push_self]
    have K2 : Kp h' h1 := by
      rw [← hh1]
      exact (Kp.refl h').push _
    have hgc1 : h1.get c = some (.cells false (P ++ (irun (R.set 0 0#32) us).map u32)) := by rw [K2.get c hltc, hgc]
    simp (maxSteps:=9^7)(disch:=first|assumption|((try simp only[nX]);omega)|simp) [y0, Hp.rdn]
    refine GC_intro (ir_doK (o := o) (P := P) (k := k) (q := fun v h2 => h2.get c = some (.cells false (P ++ (ido (irun (R.set 0 0#32) us) o).map u32)) ∧ Upd h1 h2 [c] [c]) hk (hok o (by rw [hx]; simp)) (by simp [hR]) hgc1 (fun h2 g2 u2 => ⟨g2, u2⟩)) fun v h2 ⟨g2, u2⟩ => ?_
    simp (maxSteps:=9^7)(disch:=first|assumption|((try simp only[nX]);omega)|simp) [e18]
    refine ih vs.length (by simp) _ _ ⟨us ++ [o], vs, rfl, by rw [hx]; simp, (U.one K2).trans u2, ?_, by simp [e0], by simp [e16], by simp [e17], by simp⟩
    rw [g2, irun_append]
    rfl
theorem ir_run (hR : R.length = 40) (hg : h.get c = some (.cells false (R.map u32))) (hs : Sees encOp h a L) (hac : ∀ A, a = some A → A.block ≠ c) (hb : L.length < 2 ^ 63)
    (hq : ∀ h', h'.get c = some (.cells false ((if oks L then irun (R.set 0 0#32) L else R).map u32)) → Upd h h' [c] [c] → q (.bool (decide (oks L))) h') : WC T n_0o [ptr c 0, .slice a L.length cp] h q :=
  ir_runK (P := []) (k := 0) rfl hR (by simpa using hg) hs hac hb fun h' g u => hq h' (by simpa using g) u
end
end Go.Proofs.YtmgoleiafiffoaaGreat.Cd

/- Small operations: what the document's functions do. -/
set_option maxRecDepth 1000000
set_option maxHeartbeats 4000000
set_option linter.unusedSimpArgs false
set_option linter.unusedVariables false
namespace Go.Proofs.YtmgoleiafiffoaaGreat.Cd
open Go Go.Dx
section
variable {h : Hp} {q : Value → Hp → Prop} {o : IOp} {R : Regs} {c cp : Nat} {a : Option Addr} {L : List IOp}
theorem bit_at {v : BitVec 32} {i : Nat} (h1 : v.toNat < 2 ^ (i + 1)) : ((v >>> i) &&& 1#32 == 1#32) = decide (2 ^ i ≤ v.toNat) := by
  have hp := Nat.two_pow_pos i
  have h2 : v.toNat / 2 ^ i < 2 := (Nat.div_lt_iff_lt_mul hp).2 (by rw [Nat.pow_succ] at h1; omega)
  rw [Bool.eq_iff_iff, beq_iff_eq, decide_eq_true_eq]
  constructor
  · intro hh
    have := congrArg BitVec.toNat hh
    rw [BitVec.toNat_and, BitVec.toNat_ushiftRight, Nat.shiftRight_eq_div_pow] at this
    apply Classical.byContradiction
    intro h3
    rw [Nat.div_eq_of_lt (by omega)] at this
    simp at this
  · intro hh
    have h3 : v.toNat / 2 ^ i = 1 := by
      have := (Nat.le_div_iff_mul_le hp).2 (show 1 * 2 ^ i ≤ v.toNat by omega)
      omega
    apply BitVec.eq_of_toNat_eq
    rw [BitVec.toNat_and, BitVec.toNat_ushiftRight, Nat.shiftRight_eq_div_pow, h3]
    rfl
theorem ref_clz {v : BitVec 32} : WC T n_2o [u32 v] h fun u h' => u = .int .i64 (clz v) ∧ h' = h := by
  rw [w_2o]
  simp (maxSteps:=9^7)(disch:=first|assumption|((try simp only[nX]);omega)|simp)
  refine G_loop (fun n e h' => ∃ i : Nat, n = i ∧ i ≤ 32 ∧ v.toNat < 2 ^ i ∧ h' = h ∧ e 0 = u32 v ∧ e 3 = .int .i64 (32 - i) ∧ e 4 = .int .i64 ((i : Int) - 1)) ?_ 32 _ _ ⟨32, rfl, by omega, v.isLt, rfl, by simp, by simp, by simp⟩
  rintro n ih e h' ⟨i, rfl, hi, hv, rfl, e0, e3, e4⟩
  cases n with
  | zero =>
    have hz : v = 0#32 := BitVec.eq_of_toNat_eq (by simp at hv ⊢; omega)
    simp (maxSteps:=9^7)(disch:=first|assumption|((try simp only[nX]);omega)|simp) [e0, e3, e4]
    rw [hz, clz_zero]; rfl
  | succ i =>
    have e4' : e 4 = .int .i64 i := by rw [e4]; congr 1; omega
    have hg : (0 : Int) ≤ i := by omega
    have hc : i % 18446744073709551616 = i := by omega
    have hb := bit_at hv
    by_cases h1 : 2 ^ i ≤ v.toNat
    · simp only [h1, decide_true, beq_iff_eq] at hb
      simp (maxSteps:=9^7)(disch:=first|assumption|((try simp only[nX]);omega)|simp) [e0, e3, e4', hg, hc, hb]
      rw [clz_top h1 hv (by omega)]
      omega
    · simp only [h1, decide_false, beq_eq_false_iff_ne, ne_eq] at hb
      have hs : IntKind.i64.wrap (32 - ((i : Int) + 1) + 1) = 32 - (i : Int) := by rw [wrap_i64 (by omega) (by omega)]; omega
      simp (maxSteps:=9^7)(disch:=first|assumption|((try simp only[nX]);omega)|simp) [e0, e3, e4', hg, hc, hb]
      refine ih i (by omega) _ _ ⟨i, rfl, by omega, by omega, rfl, by simp [e0], ?_, ?_⟩
      · simp; omega
      · simp
theorem ref_clo {v : BitVec 32} : WC T n_2n [u32 v] h fun u h' => u = .int .i64 (clz (~~~ v)) ∧ h' = h := by
  rw [w_2n]
  simp (maxSteps:=9^7)(disch:=first|assumption|((try simp only[nX]);omega)|simp)
  refine GC_intro ref_clz fun u h' ⟨hu, hh⟩ => ?_
  subst hu
  subst hh
  simp (maxSteps:=9^7)(disch:=first|assumption|((try simp only[nX]);omega)|simp)
theorem ref_sar {v : BitVec 32} {n : Nat} (hn : n < 32) : WC T n_2t [u32 v, .int .i64 n] h fun u h' => u = u32 (sar v n) ∧ h' = h := by
  rw [w_2t]
  have h1 : ((n : Int).tmod 32) = n := by rw [Int.tmod_eq_emod_of_nonneg (by omega)]; omega
  have h2 : ((n : Int) + 32).tmod 32 = n := by
    rw [Int.tmod_eq_emod_of_nonneg (by omega)]; omega
  simp (maxSteps:=9^7)(disch:=first|assumption|((try simp only[nX]);omega)|simp) [h1, h2]
  refine G_loop (fun m e h' => ∃ j : Nat, m = n - j ∧ j ≤ n ∧ h' = h ∧ e 0 = u32 (sar v j) ∧ e 5 = u64 (BitVec.ofNat 64 (n - j))) ?_ n _ _ ⟨0, by omega, by omega, rfl, by simp [sar_zero], by simp⟩
  rintro m ih e h' ⟨j, rfl, hj, rfl, e0, e5⟩
  by_cases hjn : j = n
  · subst hjn
    simp (maxSteps:=9^7)(disch:=first|assumption|((try simp only[nX]);omega)|simp) [e0, e5]
  · have hp : 0#64 < BitVec.ofNat 64 (n - j) := by
      rw [BitVec.lt_def]; simp; omega
    have hd : BitVec.ofNat 64 (n - j) - 1#64 = BitVec.ofNat 64 (n - (j + 1)) := by
      apply BitVec.eq_of_toNat_eq
      simp only [BitVec.toNat_sub, BitVec.toNat_ofNat]
      omega
    simp (maxSteps:=9^7)(disch:=first|assumption|((try simp only[nX]);omega)|simp) [e0, e5, hp]
    refine ih (n - (j + 1)) (by omega) _ _ ⟨j + 1, rfl, by omega, rfl, ?_, ?_⟩
    · simp [sar_one, sar_add]
    · simp [hd]
end
end Go.Proofs.YtmgoleiafiffoaaGreat.Cd

/- Few numbers sorted, each once. -/
set_option maxRecDepth 1000000
set_option maxHeartbeats 8000000
set_option linter.unusedSimpArgs false
set_option linter.unusedVariables false
namespace Go.Proofs.YtmgoleiafiffoaaGreat.Cd
open Go Go.Dx
section
variable {h : Hp} {q : Value → Hp → Prop} {b c : Nat} {x y z : Int}
theorem nan_int : WC T n_07 [.int .i64 x] h q ↔ q (.bool false) h := by
  rw [w_07]
  simp (maxSteps:=9^7)(disch:=first|assumption|((try simp only[nX]);omega)|simp)
theorem less_int : WC T n_06 [.int .i64 x, .int .i64 y] h q ↔ q (.bool (decide (x < y))) h := by
  rw [w_06]
  simp (maxSteps:=9^7)(disch:=first|assumption|((try simp only[nX]);omega)|simp) [GC_of (fun q => nan_int)]
theorem len64 {n : Nat} (hn : n < 256) : WC T n_0y [u64 (BitVec.ofNat 64 n)] h fun v h' => h' = h ∧ ∃ k, v = .int .i64 k := by
  have l64 : WC T n_10 [u64 (BitVec.ofNat 64 n)] h fun v h' => h' = h ∧ ∃ k, v = .int .i64 k := by
    have h1 : ¬ (4294967296#64 ≤ BitVec.ofNat 64 n) := by simp [BitVec.le_def]; omega
    have h2 : ¬ (65536#64 ≤ BitVec.ofNat 64 n) := by simp [BitVec.le_def]; omega
    have h3 : ¬ (256#64 ≤ BitVec.ofNat 64 n) := by simp [BitVec.le_def]; omega
    rw [w_10]
    simp (maxSteps:=9^7)(disch:=first|assumption|((try simp only[nX]);omega)|simp) [h1, h2, h3, len8]
  rw [w_0y]
  simp (maxSteps:=9^7)(disch:=first|assumption|((try simp only[nX]);omega)|simp)
  refine GC_intro l64 fun v h' ⟨hh, k, hv⟩ => ?_
  subst hh
  subst hv
  simp (maxSteps:=9^7)(disch:=first|assumption|((try simp only[nX]);omega)|simp)
theorem ins0 {a : Option Addr} {c : Nat} : WC T n_4p [.slice a 0 c, .int .i64 0, .int .i64 0] h fun v h' => h' = h := by
  rw [w_4p]
  simp (maxSteps:=9^7)(disch:=first|assumption|((try simp only[nX]);omega)|simp) [G_round]
theorem ins1 {a : Option Addr} {c : Nat} : WC T n_4p [.slice a 1 c, .int .i64 0, .int .i64 1] h fun v h' => h' = h := by
  rw [w_4p]
  simp (maxSteps:=9^7)(disch:=first|assumption|((try simp only[nX]);omega)|simp) [G_round]
def Smp (l m : List Int) : Prop := m.length = l.length ∧ m.Pairwise (· ≤ ·) ∧ ∀ c, c ∈ m ↔ c ∈ l
theorem ins2 (hg : h.get b = some (.cells false [.int .i64 x, .int .i64 y])) : WC T n_4p [.slice (some ⟨b, 0, none⟩) 2 c, .int .i64 0, .int .i64 2] h fun v h' => ∃ m, Smp [x, y] m ∧ h'.get b = some (.cells false (m.map (Value.int .i64))) ∧ Upd h h' [b] [b] := by
  have hlt := lt_of_get hg
  rw [w_4p]
  by_cases h1 : y < x
  · simp (maxSteps:=9^7)(disch:=first|assumption|((try simp only[nX]);omega)|simp) [G_round, hg, h1, GCI_of (fun q => less_int), GC_of (fun q => less_int)]
    refine ⟨[y, x], ⟨rfl, by simp; omega, by simp; omega⟩, by simp, Upd.refl.put1⟩
  · simp (maxSteps:=9^7)(disch:=first|assumption|((try simp only[nX]);omega)|simp) [G_round, hg, h1, GCI_of (fun q => less_int), GC_of (fun q => less_int)]
    refine ⟨[x, y], ⟨rfl, by simp; omega, by simp⟩, by simp, .refl⟩
theorem ins3 (hg : h.get b = some (.cells false [.int .i64 x, .int .i64 y, .int .i64 z])) : WC T n_4p [.slice (some ⟨b, 0, none⟩) 3 c, .int .i64 0, .int .i64 3] h fun v h' => ∃ m, Smp [x, y, z] m ∧ h'.get b = some (.cells false (m.map (Value.int .i64))) ∧ Upd h h' [b] [b] := by
  have hlt := lt_of_get hg
  rw [w_4p]
  by_cases h1 : y < x
  · by_cases h2 : z < x
    · by_cases h3 : z < y
      · simp (maxSteps:=9^7)(disch:=first|assumption|((try simp only[nX]);omega)|simp) [G_round, hg, h1, h2, h3, GCI_of (fun q => less_int), GC_of (fun q => less_int)]
        refine ⟨[z, y, x], ⟨rfl, by simp; omega, by simp; omega⟩, by simp, Upd.refl.put1⟩
      · simp (maxSteps:=9^7)(disch:=first|assumption|((try simp only[nX]);omega)|simp) [G_round, hg, h1, h2, h3, GCI_of (fun q => less_int), GC_of (fun q => less_int)]
        refine ⟨[y, z, x], ⟨rfl, by simp; omega, by simp; omega⟩, by simp, Upd.refl.put1⟩
    · simp (maxSteps:=9^7)(disch:=first|assumption|((try simp only[nX]);omega)|simp) [G_round, hg, h1, h2, GCI_of (fun q => less_int), GC_of (fun q => less_int)]
      refine ⟨[y, x, z], ⟨rfl, by simp; omega, by simp; omega⟩, by simp, Upd.refl.put1⟩
  · by_cases h2 : z < y
    · by_cases h3 : z < x
      · simp (maxSteps:=9^7)(disch:=first|assumption|((try simp only[nX]);omega)|simp) [G_round, hg, h1, h2, h3, GCI_of (fun q => less_int), GC_of (fun q => less_int)]
        refine ⟨[z, x, y], ⟨rfl, by simp; omega, by simp; omega⟩, by simp, Upd.refl.put1⟩
      · simp (maxSteps:=9^7)(disch:=first|assumption|((try simp only[nX]);omega)|simp) [G_round, hg, h1, h2, h3, GCI_of (fun q => less_int), GC_of (fun q => less_int)]
        refine ⟨[x, z, y], ⟨rfl, by simp; omega, by simp; omega⟩, by simp, Upd.refl.put1⟩
    · simp (maxSteps:=9^7)(disch:=first|assumption|((try simp only[nX]);omega)|simp) [G_round, hg, h1, h2, GCI_of (fun q => less_int), GC_of (fun q => less_int)]
      refine ⟨[x, y, z], ⟨rfl, by simp; omega, by simp⟩, by simp, .refl⟩
end
end Go.Proofs.YtmgoleiafiffoaaGreat.Cd

/- What an operation asks and writes: the program's. -/
set_option maxRecDepth 1000000
set_option maxHeartbeats 8000000
set_option linter.unusedSimpArgs false
set_option linter.unusedVariables false
namespace Go.Proofs.YtmgoleiafiffoaaGreat.Cd
open Go Go.Dx
section
variable {h : Hp} {q : Value → Hp → Prop} {b c : Nat} {x y z : Int} {o : IOp}
theorem pdq {a : Option Addr} {n : Nat} {k : Int} {P : Hp → Prop} (hn : n ≤ 12) (hi : WC T n_4p [.slice a n c, .int .i64 0, .int .i64 n] h fun v h' => P h') : WC T n_4x [.slice a n c, .int .i64 0, .int .i64 n, .int .i64 k] h fun v h' => P h' := by
  have h1 : (n : Int) ≤ 12 := by omega
  rw [w_4x]
  simp (maxSteps:=9^7)(disch:=first|assumption|((try simp only[nX]);omega)|simp) [G_round, h1]
  refine GC_intro hi fun v h' hp => ?_
  simp (maxSteps:=9^7)(disch:=first|assumption|((try simp only[nX]);omega)|simp)
  exact hp
theorem sort_of {a : Option Addr} {n : Nat} {P : Hp → Prop} (hn : n ≤ 12) (hi : WC T n_4p [.slice a n c, .int .i64 0, .int .i64 n] h fun v h' => P h') : WC T n_4l [.slice a n c] h fun v h' => P h' := by
  rw [w_4l]
  simp (maxSteps:=9^7)(disch:=first|assumption|((try simp only[nX]);omega)|simp)
  refine GC_intro (len64 (by omega)) fun v h' ⟨hh, k, hv⟩ => ?_
  subst hh
  subst hv
  simp (maxSteps:=9^7)(disch:=first|assumption|((try simp only[nX]);omega)|simp)
  refine GC_intro (pdq hn hi) fun v h2 hp => ?_
  simp (maxSteps:=9^7)(disch:=first|assumption|((try simp only[nX]);omega)|simp)
  exact hp
def Cmp3 (m r : List Int) : Prop := r.Pairwise (· < ·) ∧ ∀ c, c ∈ r ↔ c ∈ m
theorem compact1 : WC T n_4f [.slice (some ⟨b, 0, none⟩) 1 1] h fun v h' => v = .slice (some ⟨b, 0, none⟩) 1 1 ∧ h' = h := by
  rw [w_4f]
  simp (maxSteps:=9^7)(disch:=first|assumption|((try simp only[nX]);omega)|simp)
theorem compact0 : WC T n_4f [.slice none 0 0] h fun v h' => v = .slice none 0 0 ∧ h' = h := by
  rw [w_4f]
  simp (maxSteps:=9^7)(disch:=first|assumption|((try simp only[nX]);omega)|simp)
def Sz (h : Hp) (v : Value) (r : List Int) : Prop := ∃ a c, v = .slice a r.length c ∧ Sees encZ h a r
theorem sz_of {h : Hp} {b : Nat} {s : Option Nat} {r k : List Int} {c : Nat} (hs : s = none) (hg : h.get b = some (.cells false ((r ++ k).map (Value.int .i64)))) : Sz h (.slice (some ⟨b, 0, s⟩) r.length c) r := by
  subst hs
  refine ⟨_, _, rfl, ⟨fun hA => (by cases hA), fun A hA => ?_, fun A hA => (by cases hA; exact .inl rfl)⟩⟩
  cases hA
  simp only [Hp.rdn, Hp.cells, hg, Option.bind_some, Nat.zero_add, encZ_sz, Nat.mul_one]
  rw [if_pos (by simp)]
  simp [encZ_all]
theorem compact2 (hg : h.get b = some (.cells false [.int .i64 x, .int .i64 y])) (hm : x ≤ y) : WC T n_4f [.slice (some ⟨b, 0, none⟩) 2 2] h fun v h' => ∃ r, Cmp3 [x, y] r ∧ Sz h' v r ∧ Upd h h' [b] [b] := by
  have hlt := lt_of_get hg
  rw [w_4f]
  by_cases h1 : x = y
  · simp (maxSteps:=9^7)(disch:=first|assumption|((try simp only[nX]);omega)|simp) [G_round, hg, h1, sliceV, bounds, asN]
    refine ⟨[y], ⟨by simp, by simp⟩, sz_of (r := [y]) (k := [0]) rfl (by simp [get_put_self hlt]), Upd.refl.put1⟩
  · have h2 : ¬ y = x := fun e => h1 e.symm
    simp (maxSteps:=9^7)(disch:=first|assumption|((try simp only[nX]);omega)|simp) [G_round, hg, h1, h2, sliceV, bounds, asN]
    refine ⟨[x, y], ⟨by simp; omega, by simp⟩, sz_of (r := [x, y]) (k := []) rfl (by simp [hg]), .refl⟩
theorem compact3 (hg : h.get b = some (.cells false [.int .i64 x, .int .i64 y, .int .i64 z])) (hm : x ≤ y) (hn : y ≤ z) : WC T n_4f [.slice (some ⟨b, 0, none⟩) 3 3] h fun v h' => ∃ r, Cmp3 [x, y, z] r ∧ Sz h' v r ∧ Upd h h' [b] [b] := by
  have hlt := lt_of_get hg
  rw [w_4f]
  by_cases h1 : y = x
  · by_cases h2 : z = y
    · simp (maxSteps:=9^7)(disch:=first|assumption|((try simp only[nX]);omega)|simp) [G_round, hg, h1, h2, sliceV, bounds, asN]
      refine ⟨[x], ⟨by simp, by simp⟩, sz_of (r := [x]) (k := [0, 0]) rfl (by simp [get_put_self hlt]), Upd.refl.put1⟩
    · have h3 : ¬ z = x := by omega
      simp (maxSteps:=9^7)(disch:=first|assumption|((try simp only[nX]);omega)|simp) [G_round, hg, h1, h2, h3, sliceV, bounds, asN]
      refine ⟨[x, z], ⟨by simp; omega, by simp⟩, sz_of (r := [x, z]) (k := [0]) rfl (by simp [get_put_self hlt]), Upd.refl.put1⟩
  · by_cases h2 : z = y
    · simp (maxSteps:=9^7)(disch:=first|assumption|((try simp only[nX]);omega)|simp) [G_round, hg, h1, h2, sliceV, bounds, asN]
      refine ⟨[x, y], ⟨by simp; omega, by simp⟩, sz_of (r := [x, y]) (k := [0]) rfl (by simp [get_put_self hlt]), Upd.refl.put1⟩
    · simp (maxSteps:=9^7)(disch:=first|assumption|((try simp only[nX]);omega)|simp) [G_round, hg, h1, h2, sliceV, bounds, asN]
      refine ⟨[x, y, z], ⟨by simp; omega, by simp⟩, sz_of (r := [x, y, z]) (k := []) rfl (by simp [hg]), .refl⟩
end
end Go.Proofs.YtmgoleiafiffoaaGreat.Cd

/- Rows of small operations: what the document does with them. -/
set_option maxRecDepth 1000000
set_option maxHeartbeats 8000000
set_option linter.unusedSimpArgs false
set_option linter.unusedVariables false
namespace Go.Proofs.YtmgoleiafiffoaaGreat.Cd
open Go Go.Dx
section
variable {h : Hp} {q : Value → Hp → Prop} {o : IOp} {R : Regs} {c cp : Nat} {a : Option Addr} {L : List IOp}
theorem ref_sarI {v : BitVec 32} {n : Nat} : WC T n_2t [u32 v, .int .i64 ((n % 32 : Nat) : Int)] h q ↔ q (u32 (sar v (n % 32))) h := WC_iff (ref_sar (by omega)) q
theorem ref_clzI {v : BitVec 32} : WC T n_2o [u32 v] h q ↔ q (.int .i64 (clz v)) h := WC_iff ref_clz q
theorem ref_cloI {v : BitVec 32} : WC T n_2n [u32 v] h q ↔ q (.int .i64 (clz (~~~ v))) h := WC_iff ref_clo q
theorem ref_one (ho : o.ok) (hR : R.length = 40) (hg : h.get c = some (.cells false (R.map u32))) (hq : ∀ h', h'.get c = some (.cells false ((ido R o).map u32)) → Upd h h' [c] [c] → q (.tuple #[]) h') :
    WC T n_2j [.slice (some ⟨c, 0, none⟩) 40 cp, .agg (encOp.enc o).toArray] h q := by
  obtain ⟨⟨d0, d1⟩, ⟨a0, a1⟩, ⟨b0, b1⟩, k0, k1⟩ := id ho
  have hlt := lt_of_get hg
  have ra := rg_get (R := R) a0 (by omega)
  have rb := rg_get (R := R) b0 (by omega)
  have o1 := fun (l : List Value) n v => over_set (l := l) (i := n) (v := v)
  have dl : o.d ≤ 39 := by omega
  have fact : ∀ (g : Hp) (C : List Value), (∀ b, b < h.next → b ≠ c → g.get b = h.get b) → h.next ≤ g.next → C = (ido R o).map u32 → q (.tuple #[]) (g.put c (some (.cells false C))) := fun g C h1 h2 h3 => by
    subst h3
    exact hq _ (get_put_self (by omega)) (upd_one h1 h2)
  have same : ido R o = R → q (.tuple #[]) (h.push (.cells false (encOp.enc o))) := fun hd => hq _ (by rw [get_push_ne (by omega), hg, hd]) ⟨by simp, fun b hb _ => get_push_ne (by omega), fun b hb => .inl hb⟩
  simp only [encOp] at same
  rw [w_2j]
  have ks : o.k = 0 ∨ (o.k = 17 ∨ o.k = 18) ∨ (o.k = 19 ∨ o.k = 20) ∨ (o.k = 21 ∨ o.k = 22) ∨ (o.k = 1 ∨ o.k = 2 ∨ o.k = 3 ∨ o.k = 4 ∨ o.k = 5 ∨ o.k = 6 ∨ o.k = 7 ∨ o.k = 8 ∨ o.k = 9 ∨ o.k = 10 ∨ o.k = 11 ∨ o.k = 12 ∨ o.k = 13 ∨ o.k = 14 ∨ o.k = 15 ∨ o.k = 16) := by omega
  rcases ks with hk | hk | hk | hk | hk
  · have := same (by unfold ido; simp [hk])
    simp [hk] at this
    simp (maxSteps:=9^7)(disch:=first|assumption|((try simp only[nX]);omega)|simp) [encOp, hk, hg, ra, rb, hR]
    exact this
  · rcases hk with hk | hk <;>
    · simp (maxSteps:=9^7)(disch:=first|assumption|((try simp only[nX]);omega)|simp) [encOp, hk, hg, ra, rb, hR, -over, o1, GC_of (fun q => ref_mul)]
      refine fact _ _ ?_ ?_ ?_
      · intro b hb hbc; rw [get_push_ne (by omega)]
      · simp
      · simp [ido, hk]
  · rcases hk with hk | hk <;>
    · simp (maxSteps:=9^7)(disch:=first|assumption|((try simp only[nX]);omega)|simp) [encOp, hk, hg, ra, rb, hR, -over, o1, GC_of (fun q => ref_div)]
      refine fact _ _ ?_ ?_ ?_
      · intro b hb hbc; rw [get_push_ne (by omega)]
      · simp
      · simp [ido, hk]
  · by_cases z : rg R o.b = 0#32
    · rcases hk with hk | hk
      · by_cases hd : o.d = 0
        · have := same (by unfold ido; simp [hk, hd])
          simp [hk, hd] at this
          simp (maxSteps:=9^7)(disch:=first|assumption|((try simp only[nX]);omega)|simp) [encOp, hk, hd, hg, ra, rb, hR, -over, o1, z]
          exact this
        · have hp : 0 < o.d := by omega
          simp (maxSteps:=9^7)(disch:=first|assumption|((try simp only[nX]);omega)|simp) [encOp, hk, hp, hg, ra, rb, hR, dl, -over, o1, z]
          refine fact _ _ ?_ ?_ ?_
          · intro b hb hbc; rw [get_push_ne (by omega)]
          · simp
          · simp [ido, hk, hd, z, iof]
      · have := same (by unfold ido; simp [hk, z])
        simp [hk] at this
        simp (maxSteps:=9^7)(disch:=first|assumption|((try simp only[nX]);omega)|simp) [encOp, hk, hg, ra, rb, hR, -over, o1, z]
        exact this
    · rcases hk with hk | hk
      · have := same (by unfold ido; simp [hk, z])
        simp [hk] at this
        simp (maxSteps:=9^7)(disch:=first|assumption|((try simp only[nX]);omega)|simp) [encOp, hk, hg, ra, rb, hR, -over, o1, z]
        exact this
      · by_cases hd : o.d = 0
        · have := same (by unfold ido; simp [hk, hd])
          simp [hk, hd] at this
          simp (maxSteps:=9^7)(disch:=first|assumption|((try simp only[nX]);omega)|simp) [encOp, hk, hd, hg, ra, rb, hR, -over, o1, z]
          exact this
        · have hp : 0 < o.d := by omega
          simp (maxSteps:=9^7)(disch:=first|assumption|((try simp only[nX]);omega)|simp) [encOp, hk, hp, hg, ra, rb, hR, dl, -over, o1, z]
          refine fact _ _ ?_ ?_ ?_
          · intro b hb hbc; rw [get_push_ne (by omega)]
          · simp
          · simp [ido, hk, hd, z, iof]
  · by_cases hd : o.d = 0
    · have sm : ido R o = R := by
        unfold ido
        rw [if_neg (by omega), if_neg (by omega), if_pos (.inr (.inl hd))]
      have := same sm
      rcases hk with hk | hk | hk | hk | hk | hk | hk | hk | hk | hk | hk | hk | hk | hk | hk | hk <;>
      · simp [hk, hd] at this
        simp (maxSteps:=9^7)(disch:=first|assumption|((try simp only[nX]);omega)|simp) [encOp, hk, hd, hg, ra, rb, hR, -over, o1, GC_of (fun q => ref_less), GC_of (fun q => ref_bit), GC_of (fun q => ref_mul), GC_of (fun q => ref_sarI), GC_of (fun q => ref_clzI), GC_of (fun q => ref_cloI), -Int.natCast_emod]
        exact this
    · have hp : 0 < o.d := by omega
      rcases hk with hk | hk | hk | hk | hk | hk | hk | hk | hk | hk | hk | hk | hk | hk | hk | hk <;>
      · simp (maxSteps:=9^7)(disch:=first|assumption|((try simp only[nX]);omega)|simp) [encOp, hk, hp, hg, ra, rb, hR, dl, -over, o1, GC_of (fun q => ref_less), GC_of (fun q => ref_bit), GC_of (fun q => ref_mul), GC_of (fun q => ref_sarI), GC_of (fun q => ref_clzI), GC_of (fun q => ref_cloI), -Int.natCast_emod]
        refine fact _ _ ?_ ?_ ?_
        · intro b hb hbc; rw [get_push_ne (by omega)]
        · simp
        · simp [ido, hk, hd, iof]
end
end Go.Proofs.YtmgoleiafiffoaaGreat.Cd

/- What an operation asks and writes: the program's, the document's. -/
set_option maxRecDepth 1000000
set_option maxHeartbeats 8000000
set_option linter.unusedSimpArgs false
set_option linter.unusedVariables false
namespace Go.Proofs.YtmgoleiafiffoaaGreat.Cd
open Go Go.Dx
section
variable {h : Hp} {q : Value → Hp → Prop} {b c : Nat} {x y z : Int} {o : IOp}
theorem sz_nil : Sz h (.slice none 0 0) [] := ⟨none, 0, rfl, .nul⟩
theorem kp_upd {g h h' : Hp} {b : Nat} (k : Kp g h) (u : Upd h h' [b] [b]) (hb : g.next ≤ b) : Kp g h' := u.kp' k (by simpa using hb)
theorem srtd_of {m r l : List Int} (h1 : Smp l m) (h2 : Cmp3 m r) (hb : ∀ c ∈ l, 0 ≤ c ∧ c < 40) : r = srtd l :=
  (srtd_eq h2.1 (fun c => (h2.2 c).trans (h1.2.2 c)) hb).symm
theorem sort1 {h : Hp} : WC T n_4l [.slice (some ⟨b, 0, none⟩) 1 1] h fun v h' => h' = h := sort_of (by omega) ins1
theorem sort0 {h : Hp} : WC T n_4l [.slice none 0 0] h fun v h' => h' = h := sort_of (by omega) ins0
theorem sort2 {h : Hp} (hg : h.get b = some (.cells false [.int .i64 x, .int .i64 y])) : WC T n_4l [.slice (some ⟨b, 0, none⟩) 2 2] h fun v h' => ∃ m, Smp [x, y] m ∧ h'.get b = some (.cells false (m.map (Value.int .i64))) ∧ Upd h h' [b] [b] := sort_of (by omega) (ins2 hg)
theorem sort3 {h : Hp} (hg : h.get b = some (.cells false [.int .i64 x, .int .i64 y, .int .i64 z])) : WC T n_4l [.slice (some ⟨b, 0, none⟩) 3 3] h fun v h' => ∃ m, Smp [x, y, z] m ∧ h'.get b = some (.cells false (m.map (Value.int .i64))) ∧ Upd h h' [b] [b] := sort_of (by omega) (ins3 hg)
theorem two_of {m : List Int} (h : m.length = 2) : ∃ x y, m = [x, y] := by
  match m, h with
  | [x, y], _ => exact ⟨x, y, rfl⟩
theorem three_of {m : List Int} (h : m.length = 3) : ∃ x y z, m = [x, y, z] := by
  match m, h with
  | [x, y, z], _ => exact ⟨x, y, z, rfl⟩
theorem ir_reads : WC T n_0l [.agg (encOp.enc o).toArray] h fun v h' => Sz h' v (ireads o) ∧ Kp h h' := by
  have irr := fun (h : Hp) (q : Value → Hp → Prop) => ir_right (h := h) (q := q) (o := o)
  simp only [encOp] at irr
  have K0 : Kp h (((h.push (.cells false (encOp.enc o))).push (.cells false (encOp.enc o))).push (.cells false [.int .i64 o.d, .int .i64 o.a, .int .i64 o.b])) := ((((Kp.refl h).push _).push _).push _)
  rw [w_0l]
  by_cases ho : o.ok
  case neg =>
    have e : ireads o = [] := by unfold ireads; rw [if_pos (.inl ho)]
    rw [e]
    simp (maxSteps:=9^7)(disch:=first|assumption|((try simp only[nX]);omega)|simp) [encOp, Hp.rdn, GC_of (fun q => irr _ q), ho]
    refine GC_intro sort0 fun v h1 hh => ?_
    subst hh
    simp (maxSteps:=9^7)(disch:=first|assumption|((try simp only[nX]);omega)|simp)
    refine GC_intro compact0 fun v h1 ⟨hv, hh⟩ => ?_
    subst hh
    subst hv
    simp (maxSteps:=9^7)(disch:=first|assumption|((try simp only[nX]);omega)|simp)
    exact ⟨sz_nil, K0⟩
  by_cases hk : o.k = 0 ∨ o.k = 1
  · have e : ireads o = [] := by unfold ireads; rw [if_pos (.inr hk)]
    rw [e]
    simp only [encOp] at K0
    rcases hk with hk | hk <;>
    · simp only [hk] at irr K0
      simp (maxSteps:=9^7)(disch:=first|assumption|((try simp only[nX]);omega)|simp) [encOp, Hp.rdn, GC_of (fun q => irr _ q), ho, hk]
      refine GC_intro sort0 fun v h1 hh => ?_
      subst hh
      simp (maxSteps:=9^7)(disch:=first|assumption|((try simp only[nX]);omega)|simp)
      refine GC_intro compact0 fun v h1 ⟨hv, hh⟩ => ?_
      subst hh
      subst hv
      simp (maxSteps:=9^7)(disch:=first|assumption|((try simp only[nX]);omega)|simp)
      exact ⟨sz_nil, K0⟩
  have hk0 : o.k ≠ 0 ∧ o.k ≠ 1 := by omega
  have h3 : ¬ (¬ o.ok ∨ o.k = 0 ∨ o.k = 1) := by simp [ho, hk0]
  have ho' := ho
  obtain ⟨⟨d0, d1⟩, ⟨a0, a1⟩, ⟨b0, b1⟩, _, _⟩ := ho'
  have e0 : ireads o = if o.k = 2 ∨ o.k = 15 ∨ o.k = 16 then srtd [o.a] else if o.k = 21 ∨ o.k = 22 then srtd [o.a, o.b, o.d] else srtd [o.a, o.b] := by unfold ireads; rw [if_neg h3]
  by_cases hk1 : o.k = 2 ∨ o.k = 15 ∨ o.k = 16
  · rw [e0, if_pos hk1]
    have es : [o.a] = srtd [o.a] := srtd_of (m := [o.a]) ⟨rfl, by simp, fun _ => Iff.rfl⟩ ⟨by simp, fun _ => Iff.rfl⟩ (by simp; omega)
    rw [← es]
    simp only [encOp] at K0
    rcases hk1 with hk | hk | hk <;>
    · simp only [hk] at irr K0
      simp (maxSteps:=9^7)(disch:=first|assumption|((try simp only[nX]);omega)|simp) [encOp, Hp.rdn, GC_of (fun q => irr _ q), ho, hk]
      refine GC_intro sort1 fun v h1 hh => ?_
      subst hh
      simp (maxSteps:=9^7)(disch:=first|assumption|((try simp only[nX]);omega)|simp)
      refine GC_intro compact1 fun v h1 ⟨hv, hh⟩ => ?_
      subst hh
      subst hv
      simp (maxSteps:=9^7)(disch:=first|assumption|((try simp only[nX]);omega)|simp)
      exact ⟨sz_of (r := [o.a]) (k := []) rfl (get_push_at (by simp) (by simp)), K0.push _⟩
  have hk1' : o.k ≠ 2 ∧ o.k ≠ 15 ∧ o.k ≠ 16 := by omega
  by_cases hk2 : o.k = 21 ∨ o.k = 22
  · rw [e0, if_neg hk1, if_pos hk2]
    simp only [encOp] at K0
    rcases hk2 with hk | hk <;>
    · simp only [hk] at irr K0
      simp (maxSteps:=9^7)(disch:=first|assumption|((try simp only[nX]);omega)|simp) [encOp, Hp.rdn, GC_of (fun q => irr _ q), ho, hk]
      refine GC_intro (sort3 (x := o.a) (y := o.b) (z := o.d) (get_push_at (by simp) (by simp))) fun v h1 ⟨m, hm, hg, U⟩ => ?_
      obtain ⟨x, y, z, rfl⟩ := three_of hm.1
      have hm2 := hm.2.1
      simp at hm2
      simp (maxSteps:=9^7)(disch:=first|assumption|((try simp only[nX]);omega)|simp)
      refine GC_intro (compact3 hg (by omega) (by omega)) fun v h2 ⟨r, hr, hz, U2⟩ => ?_
      simp (maxSteps:=9^7)(disch:=first|assumption|((try simp only[nX]);omega)|simp)
      rw [← srtd_of hm hr (by simp; omega)]
      exact ⟨hz, kp_upd (kp_upd (K0.push _) U (by omega)) U2 (by omega)⟩
  · have hk2' : o.k ≠ 21 ∧ o.k ≠ 22 := by omega
    rw [e0, if_neg hk1, if_neg hk2]
    simp only [encOp] at K0
    simp (maxSteps:=9^7)(disch:=first|assumption|((try simp only[nX]);omega)|simp) [encOp, Hp.rdn, GC_of (fun q => irr _ q), ho, hk0, hk1', hk2']
    refine GC_intro (sort2 (x := o.a) (y := o.b) (get_push_at (by simp) (by simp))) fun v h1 ⟨m, hm, hg, U⟩ => ?_
    obtain ⟨x, y, rfl⟩ := two_of hm.1
    have hm2 := hm.2.1
    simp at hm2
    simp (maxSteps:=9^7)(disch:=first|assumption|((try simp only[nX]);omega)|simp)
    refine GC_intro (compact2 hg (by omega)) fun v h2 ⟨r, hr, hz, U2⟩ => ?_
    simp (maxSteps:=9^7)(disch:=first|assumption|((try simp only[nX]);omega)|simp)
    rw [← srtd_of hm hr (by simp; omega)]
    exact ⟨hz, kp_upd (kp_upd (K0.push _) U (by omega)) U2 (by omega)⟩
end
end Go.Proofs.YtmgoleiafiffoaaGreat.Cd

/- Are two rows the same? -/
set_option maxRecDepth 1000000
set_option linter.unusedSimpArgs false
set_option linter.unusedVariables false
namespace Go.Proofs.YtmgoleiafiffoaaGreat.Cd
open Go Go.Dx
end Go.Proofs.YtmgoleiafiffoaaGreat.Cd

/- What an operation asks and writes: the program's, the document's. -/
set_option maxRecDepth 1000000
set_option maxHeartbeats 8000000
set_option linter.unusedSimpArgs false
set_option linter.unusedVariables false
namespace Go.Proofs.YtmgoleiafiffoaaGreat.Cd
open Go Go.Dx
section
variable {h : Hp} {q : Value → Hp → Prop} {b c : Nat} {x y z : Int} {o : IOp}
theorem ir_writes : WC T n_0q [.agg (encOp.enc o).toArray] h fun v h' => Sz h' v (iwrites o) ∧ Kp h h' := by
  have irr := fun (h : Hp) (q : Value → Hp → Prop) => ir_right (h := h) (q := q) (o := o)
  simp only [encOp] at irr
  have K0 : Kp h (((h.push (.cells false (encOp.enc o))).push (.cells false (encOp.enc o))).push (.cells false [.int .i64 o.d, .int .i64 o.a, .int .i64 o.b])) := ((((Kp.refl h).push _).push _).push _)
  simp only [encOp] at K0
  rw [w_0q]
  by_cases ho : o.ok
  case neg =>
    have e : iwrites o = [] := by unfold iwrites; rw [if_pos (.inl ho)]
    rw [e]
    simp (maxSteps:=9^7)(disch:=first|assumption|((try simp only[nX]);omega)|simp) [encOp, Hp.rdn, GC_of (fun q => irr _ q), ho]
    exact ⟨sz_nil, K0⟩
  by_cases hk : o.k = 0
  · have e : iwrites o = [] := by unfold iwrites; rw [if_pos (.inr hk)]
    rw [e]
    simp only [hk] at irr K0
    simp (maxSteps:=9^7)(disch:=first|assumption|((try simp only[nX]);omega)|simp) [encOp, Hp.rdn, GC_of (fun q => irr _ q), ho, hk]
    exact ⟨sz_nil, K0⟩
  have e0 : iwrites o = if 17 ≤ o.k ∧ o.k ≤ 20 then [32, 33] else if o.d = 0 then [] else [o.d] := by unfold iwrites; rw [if_neg (by simp [ho, hk])]
  rw [e0]
  by_cases k1 : 17 ≤ o.k
  · by_cases k2 : o.k ≤ 20
    · rw [if_pos ⟨k1, k2⟩]
      simp (maxSteps:=9^7)(disch:=first|assumption|((try simp only[nX]);omega)|simp) [encOp, Hp.rdn, GC_of (fun q => irr _ q), ho, hk, k1, k2]
      exact ⟨sz_of (r := [32, 33]) (k := []) rfl (get_push_at (by simp) (by simp)), K0.push _⟩
    · rw [if_neg (fun hh => k2 hh.2)]
      by_cases hd : o.d = 0
      · rw [if_pos hd]
        simp only [hd] at irr K0
        simp (maxSteps:=9^7)(disch:=first|assumption|((try simp only[nX]);omega)|simp) [encOp, Hp.rdn, GC_of (fun q => irr _ q), ho, hk, k1, k2, hd]
        exact ⟨sz_nil, K0⟩
      · rw [if_neg hd]
        simp (maxSteps:=9^7)(disch:=first|assumption|((try simp only[nX]);omega)|simp) [encOp, Hp.rdn, GC_of (fun q => irr _ q), ho, hk, k1, k2, hd]
        exact ⟨sz_of (r := [o.d]) (k := []) rfl (get_push_at (by simp) (by simp)), K0.push _⟩
  · rw [if_neg (fun hh => k1 hh.1)]
    by_cases hd : o.d = 0
    · rw [if_pos hd]
      simp only [hd] at irr K0
      simp (maxSteps:=9^7)(disch:=first|assumption|((try simp only[nX]);omega)|simp) [encOp, Hp.rdn, GC_of (fun q => irr _ q), ho, hk, k1, hd]
      exact ⟨sz_nil, K0⟩
    · rw [if_neg hd]
      simp (maxSteps:=9^7)(disch:=first|assumption|((try simp only[nX]);omega)|simp) [encOp, Hp.rdn, GC_of (fun q => irr _ q), ho, hk, k1, hd]
      exact ⟨sz_of (r := [o.d]) (k := []) rfl (get_push_at (by simp) (by simp)), K0.push _⟩
end
end Go.Proofs.YtmgoleiafiffoaaGreat.Cd

/- Are two rows the same? -/
set_option maxRecDepth 1000000
set_option linter.unusedSimpArgs false
set_option linter.unusedVariables false
namespace Go.Proofs.YtmgoleiafiffoaaGreat.Cd
open Go Go.Dx
theorem same_u32 {h : Hp} {q : Value → Hp → Prop} {a a' : Option Addr} {c c' : Nat} {xs ys : List (BitVec 32)} (hx : Sees encW h a xs) (hy : Sees encW h a' ys) (hb : xs.length < 2 ^ 63) : WC T n_1b [.slice a xs.length c, .slice a' ys.length c'] h q ↔ q (.bool (decide (xs = ys))) h := by
  refine WC_iff ?_ q
  rw [w_1b]
  by_cases hl : xs.length = ys.length
  case neg =>
    have hne : xs ≠ ys := fun e => hl (by rw [e])
    have hl' : ¬ ((xs.length : Int) = ys.length) := by omega
    simp (maxSteps:=9^7)(disch:=first|assumption|((try simp only[nX]);omega)|simp) [hl', hne]
  simp (maxSteps:=9^7)(disch:=first|assumption|((try simp only[nX]);omega)|simp) [hl]
  refine G_loop (fun n e h' => ∃ us vs ws, n = vs.length ∧ h' = h ∧ xs = us ++ vs ∧ ys = us ++ ws ∧ e 0 = .slice a xs.length c ∧ e 1 = .slice a' ys.length c' ∧ e 5 = .int .i64 us.length) ?_ xs.length _ _ ⟨[], xs, ys, rfl, rfl, rfl, rfl, by simp [hl], by simp, by simp⟩
  rintro n ih e h' ⟨us, vs, ws, rfl, rfl, h1, h2, e0, e1, e5⟩
  cases vs with
  | nil =>
    have hw : ws = [] := by
      have h3 := hl
      rw [h1, h2] at h3
      simpa using h3
    subst hw
    have hxs : xs = us := by simpa using h1
    have hxy : xs = ys := by rw [h1, h2]
    have hll : us.length = xs.length := by rw [hxs]
    simp (maxSteps:=9^7)(disch:=first|assumption|((try simp only[nX]);omega)|simp) [e0, e5, hll, hxy]
  | cons x vs =>
    cases ws with
    | nil =>
      have h3 := hl
      rw [h1, h2] at h3
      simp at h3
    | cons y ws =>
      have hlt : (us.length : Int) < xs.length := by rw [h1]; simp; omega
      have hlt' : (us.length : Int) < ys.length := by omega
      obtain ⟨A, ro, C, hA, g1, k1⟩ := Sees.cell (f := u32) (fun _ => rfl) rfl (us := us) (x := x) (vs := vs) (by rw [← h1]; exact hx)
      obtain ⟨A', ro', C', hA', g2, k2⟩ := Sees.cell (f := u32) (fun _ => rfl) rfl (us := us) (x := y) (vs := ws) (by rw [← h2]; exact hy)
      by_cases hxy : x = y
      · simp (maxSteps:=9^7)(disch:=first|assumption|((try simp only[nX]);omega)|simp) [e0, e1, e5, hlt, hlt', hA, hA', g1, g2, k1, k2, hxy]
        apply ih vs.length (by simp)
        refine ⟨us ++ [x], vs, ws, rfl, rfl, by simp [h1], by simp [h2, hxy], by simp [e0, hA], by simp [e1, hA'], by simp⟩
      · have hne : xs ≠ ys := fun e => by rw [h1, h2] at e; simp [hxy] at e
        simp (maxSteps:=9^7)(disch:=first|assumption|((try simp only[nX]);omega)|simp) [e0, e1, e5, hlt, hlt', hA, hA', g1, g2, k1, k2, hxy, hne]
end Go.Proofs.YtmgoleiafiffoaaGreat.Cd

/- Small operations: what the laws' own functions do. -/
set_option maxRecDepth 1000000
set_option maxHeartbeats 8000000
set_option linter.unusedSimpArgs false
set_option linter.unusedVariables false
namespace Go.Proofs.YtmgoleiafiffoaaGreat.Cd
open Go Go.Dx
section
variable {h : Hp} {q : Value → Hp → Prop} {b c : Nat} {x y z : Int} {o : IOp}
theorem iwrites_len (o : IOp) : (iwrites o).length < 2 ^ 63 := by
  unfold iwrites
  split
  · simp
  · split
    · simp
    · split <;> simp
theorem srtd_len (l : List Int) : (srtd l).length < 2 ^ 63 := by
  have := List.length_filter_le (fun c => decide (c ∈ l)) ((List.range 40).map Int.ofNat)
  simp at this
  simp only [srtd]
  omega
theorem ireads_len (o : IOp) : (ireads o).length < 2 ^ 63 := by
  unfold ireads
  split
  · simp
  · split
    · exact srtd_len _
    · split <;> exact srtd_len _
end
end Go.Proofs.YtmgoleiafiffoaaGreat.Cd

/- Small operations: rows of cells, what the program and the document leave in them. -/
set_option maxRecDepth 1000000
set_option maxHeartbeats 8000000
set_option linter.unusedSimpArgs false
set_option linter.unusedVariables false
namespace Go.Proofs.YtmgoleiafiffoaaGreat.Cd
open Go Go.Dx
section
variable {h : Hp} {q : Value → Hp → Prop} {b c c' : Nat} {o : IOp} {a a' : Option Addr} {l : List (BitVec 32)} {L : List IOp} {R : Regs} {cp : Nat}
theorem ref_run (hR : R.length = 40) (hg : h.get b = some (.cells false (R.map u32))) (hs : Sees encOp h a L) (hac : ∀ A, a = some A → A.block ≠ b) (hb : L.length < 2 ^ 63)
    (hq : ∀ h', h'.get b = some (.cells false ((if oks L then irun R L else R).map u32)) → Upd h h' [b] [b] → q (.bool (decide (oks L))) h') : WC T n_2l [.slice (some ⟨b, 0, none⟩) 40 cp, .slice a L.length c] h q := by
  have hlt := lt_of_get hg
  have irr := fun (h : Hp) (q : Value → Hp → Prop) (o : IOp) => ref_right (h := h) (q := q) (o := o)
  simp only [encOp] at irr
  rw [w_2l]
  simp (maxSteps:=9^7)(disch:=first|assumption|((try simp only[nX]);omega)|simp)
  refine G_loop (fun n e h' => ∃ us vs, n = vs.length ∧ L = us ++ vs ∧ (∀ o ∈ us, o.ok) ∧ Kp h h' ∧ e 0 = .slice (some ⟨b, 0, none⟩) 40 cp ∧ e 1 = .slice a L.length c ∧ e 5 = .int .i64 us.length) ?_ L.length _ _ ⟨[], L, rfl, rfl, by simp, .refl _, by simp, by simp, by simp⟩
  rintro n ih e h' ⟨us, vs, rfl, hx, hu, K, e0, e1, e5⟩
  cases vs with
  | cons o vs =>
    have hl : us.length < L.length := by rw [hx]; simp
    have hl' : (us.length : Int) < L.length := by omega
    obtain ⟨A, rfl, hr⟩ := Sees.mid (A := us) (x := o) (B := vs) (by rw [← hx]; exact hs.kp K)
    have hr' : h'.rdn A.block (A.off + us.length * 5) 5 = some [.int .i64 o.k, .int .i64 o.d, .int .i64 o.a, .int .i64 o.b, u32 o.imm] := hr
    by_cases ho : o.ok
    · simp (maxSteps:=9^7)(disch:=first|assumption|((try simp only[nX]);omega)|simp) [e0, e1, e5, hl', hr', GC_of (fun q => irr _ q _), ho]
      refine ih vs.length (by simp) _ _ ⟨us ++ [o], vs, rfl, by simp [hx], fun x hx => ?_, K.push _, by simp [e0], by simp [e1], by simp⟩
      rcases List.mem_append.1 hx with h1 | h1
      · exact hu x h1
      · simp at h1; subst h1; exact ho
    · simp (maxSteps:=9^7)(disch:=first|assumption|((try simp only[nX]);omega)|simp) [e0, e1, e5, hl', hr', GC_of (fun q => irr _ q _), ho]
      have hn : ¬ oks L := fun hh => ho (hh o (by rw [hx]; simp))
      have := hq (h'.push (.cells false [.int .i64 o.k, .int .i64 o.d, .int .i64 o.a, .int .i64 o.b, u32 o.imm])) (by rw [if_neg hn, (K.push _).get b hlt, hg]) ((K.push _).upd _)
      simpa [hn] using this
  | nil =>
    have hL : L = us := by simpa using hx
    have hl : L.length = us.length := by rw [hL]
    have hok : oks L := by rw [hL]; exact hu
    rw [if_pos hok] at hq
    simp only [hok, decide_true] at hq
    simp (maxSteps:=9^7)(disch:=first|assumption|((try simp only[nX]);omega)|simp) [e0, e1, e5, hl]
    have hg' : h'.get b = some (.cells false (R.map u32)) := by rw [K.get b hlt, hg]
    refine G_loop (fun n e h2 => ∃ us vs, n = vs.length ∧ L = us ++ vs ∧ Upd h h2 [b] [b] ∧ h2.get b = some (.cells false ((irun R us).map u32)) ∧ e 0 = .slice (some ⟨b, 0, none⟩) 40 cp ∧ e 1 = .slice a L.length c ∧ e 6 = .int .i64 us.length) ?_ L.length _ _ ⟨[], L, rfl, rfl, K.upd _, by simpa using hg', by simp [e0], by simp [e1, hl], by simp⟩
    clear ih e0 e1 e5 K hg' hx hu
    rintro n ih e h2 ⟨us, vs, rfl, hx, U, hg2, e0, e1, e6⟩
    cases vs with
    | nil =>
      have hL : L = us := by simpa using hx
      have hl : L.length = us.length := by rw [hL]
      simp (maxSteps:=9^7)(disch:=first|assumption|((try simp only[nX]);omega)|simp) [e0, e1, e6, hl]
      exact hq _ (by rw [hg2, hL]) U
    | cons o vs =>
      have hl : us.length < L.length := by rw [hx]; simp
      have hl' : (us.length : Int) < L.length := by omega
      obtain ⟨A, rfl, hr⟩ := Sees.mid (A := us) (x := o) (B := vs) (by rw [← hx]; exact hs)
      have hr' : h2.rdn A.block (A.off + us.length * 5) 5 = some [.int .i64 o.k, .int .i64 o.d, .int .i64 o.a, .int .i64 o.b, u32 o.imm] := rdn_kp hr (U.get _ (lt_of_rdn hr) (by simpa using hac A rfl))
      simp (maxSteps:=9^7)(disch:=first|assumption|((try simp only[nX]);omega)|simp) [e0, e1, e6, hl', hr']
      refine GC_intro (ref_one (o := o) (q := fun v h3 => h3.get b = some (.cells false ((ido (irun R us) o).map u32)) ∧ Upd h2 h3 [b] [b]) (hok o (by rw [hx]; simp)) (by simp [hR]) hg2 (fun h3 g3 u3 => ⟨g3, u3⟩)) fun v h3 ⟨g3, u3⟩ => ?_
      simp (maxSteps:=9^7)(disch:=first|assumption|((try simp only[nX]);omega)|simp) [e6]
      refine ih vs.length (by simp) _ _ ⟨us ++ [o], vs, rfl, by rw [hx]; simp, U.trans u3, ?_, by simp [e0], by simp [e1], by simp⟩
      rw [g3, irun_append]
      rfl
end
end Go.Proofs.YtmgoleiafiffoaaGreat.Cd

/- Small operations: the laws' runs. -/
set_option maxRecDepth 1000000
set_option maxHeartbeats 8000000
set_option linter.unusedSimpArgs false
set_option linter.unusedVariables false
namespace Go.Proofs.YtmgoleiafiffoaaGreat.Cd
open Go Go.Dx
section
variable {h : Hp} {q : Value → Hp → Prop} {b c c' : Nat} {o : IOp} {a a' : Option Addr} {l : List (BitVec 32)} {L : List IOp} {R : Regs} {cp : Nat}
def L0 : List IOp := [⟨1, 3, 0, 0, 5#32⟩, ⟨3, 3, 3, 3, 0#32⟩]
end
end Go.Proofs.YtmgoleiafiffoaaGreat.Cd

/- Shorter rows: the small functions. -/
set_option maxRecDepth 1000000
set_option maxHeartbeats 8000000
set_option linter.unusedSimpArgs false
set_option linter.unusedVariables false
namespace Go.Proofs.YtmgoleiafiffoaaGreat.Cd
open Go Go.Dx
section
variable {h : Hp} {q : Value → Hp → Prop} {b c c' : Nat} {o p : IOp} {R : Regs} {a a' : Option Addr} {L : List IOp} {lv : Live}
theorem opt_right (hs : Sees encOp h a L) (hb : L.length < 2 ^ 63) : WC T n_18 [.slice a L.length c] h fun v h' => v = .bool (decide (oks L)) ∧ Kp h h' := by
  have irr := fun (h : Hp) (q : Value → Hp → Prop) (o : IOp) => ir_right (h := h) (q := q) (o := o)
  simp only [encOp] at irr
  rw [w_18]
  simp (maxSteps:=9^7)(disch:=first|assumption|((try simp only[nX]);omega)|simp)
  refine G_loop (fun n e h' => ∃ us vs, n = vs.length ∧ L = us ++ vs ∧ (∀ o ∈ us, o.ok) ∧ Kp h h' ∧ e 5 = .slice a L.length c ∧ e 6 = .int .i64 L.length ∧ e 7 = .int .i64 us.length) ?_ L.length _ _ ⟨[], L, rfl, rfl, by simp, .refl _, by simp, by simp, by simp⟩
  rintro n ih e h' ⟨us, vs, rfl, hx, hu, K, e5, e6, e7⟩
  cases vs with
  | nil =>
    have hL : L = us := by simpa using hx
    have hl : (L.length : Int) = us.length := by rw [hL]
    have hok : oks L := by rw [hL]; exact hu
    simp (maxSteps:=9^7)(disch:=first|assumption|((try simp only[nX]);omega)|simp) [e5, e6, e7, hl, hok]
    exact K
  | cons o vs =>
    have hl : us.length < L.length := by rw [hx]; simp
    have hl' : (us.length : Int) < L.length := by omega
    obtain ⟨A, rfl, hr⟩ := Sees.mid (A := us) (x := o) (B := vs) (by rw [← hx]; exact hs.kp K)
    have hr' : h'.rdn A.block (A.off + us.length * 5) 5 = some [.int .i64 o.k, .int .i64 o.d, .int .i64 o.a, .int .i64 o.b, u32 o.imm] := hr
    have r1 : (h'.push (.cells false [.int .i64 o.k, .int .i64 o.d, .int .i64 o.a, .int .i64 o.b, u32 o.imm])).rdn h'.next 0 5 = some [.int .i64 o.k, .int .i64 o.d, .int .i64 o.a, .int .i64 o.b, u32 o.imm] := rdn_all get_push_self rfl
    by_cases ho : o.ok
    · simp (maxSteps:=9^7)(disch:=first|assumption|((try simp only[nX]);omega)|simp) [e5, e6, e7, hl', hr', r1, GC_of (fun q => irr _ q _), ho]
      refine ih vs.length (by simp) _ _ ⟨us ++ [o], vs, rfl, by simp [hx], fun x hx => ?_, ((K.push _).push _).push _, by simp [e5], by simp [e6], by simp⟩
      rcases List.mem_append.1 hx with h1 | h1
      · exact hu x h1
      · simp at h1; subst h1; exact ho
    · have hn : ¬ oks L := fun hh => ho (hh o (by rw [hx]; simp))
      simp (maxSteps:=9^7)(disch:=first|assumption|((try simp only[nX]);omega)|simp) [e5, e6, e7, hl', hr', r1, GC_of (fun q => irr _ q _), ho, hn]
      exact ((K.push _).push _).push _
theorem opt_sure : WC T n_19 [.agg (encOp.enc o).toArray] h q ↔ q (.bool (isure o)) (h.push (.cells false (encOp.enc o))) := by
  rw [w_19]
  unfold isure
  by_cases h1 : o.k = 21
  · simp (maxSteps:=9^7)(disch:=first|assumption|((try simp only[nX]);omega)|simp) [encOp, h1]
  · by_cases h2 : o.k = 22
    · simp (maxSteps:=9^7)(disch:=first|assumption|((try simp only[nX]);omega)|simp) [encOp, h1, h2]
    · simp (maxSteps:=9^7)(disch:=first|assumption|((try simp only[nX]);omega)|simp) [encOp, h1, h2]
theorem dead_1 {n : Int} (hg : h.get b = some (.cells false (bls lv))) (h0 : 0 ≤ n) (h1 : n < 40) : WC T n_12 [.int .i64 n, ptr b 0] h q ↔ q (.bool (lv n)) h := by
  have hb := bls_at lv h0 h1
  rw [w_12]
  simp (maxSteps:=9^7)(disch:=first|assumption|((try simp only[nX]);omega)|simp) [hg, hb]
theorem any_live {l : List Int} (hs : Sees encZ h a l) (hl : ∀ n ∈ l, 0 ≤ n ∧ n < 40) (hb : l.length < 2 ^ 63) (hg : h.get b = some (.cells false (bls lv))) :
    WC T n_4g [.slice a l.length c, .func (.func n_12) #[] #[ptr b 0]] h fun v h' => v = .bool (l.any lv) ∧ Kp h h' :=
  contains_int (fc := n_12) (caps := #[ptr b 0]) (p := lv) hs hb fun x hx h1 K => (dead_1 (q := fun v h2 => v = .bool (lv x) ∧ Kp h1 h2) (by rw [K.get b (lt_of_get hg), hg]) (hl x hx).1 (hl x hx).2).2 ⟨rfl, .refl _⟩
theorem snoc_of {X : List IOp} (h : X ≠ []) : ∃ M y, X = M ++ [y] := ⟨X.dropLast, X.getLast h, (List.dropLast_concat_getLast h).symm⟩
/-- A row in its own block, turned. -/
theorem rev_blk {X : List IOp} {r : List Value} {sp : Option Nat} (hb : X.length < 2 ^ 60) (hg : h.get b = some (.cells false (encOp.all X ++ r))) : WC T n_4k [.slice (some ⟨b, 0, sp⟩) X.length c] h fun _ h' => h'.get b = some (.cells false (encOp.all X.reverse ++ r)) ∧ Upd h h' [b] [b] := by
  rw [w_4k]
  simp (maxSteps:=9^7)(disch:=first|assumption|((try simp only[nX]);omega)|simp)
  refine G_loop (fun n e h' => ∃ A M B, n = M.length ∧ X = A ++ M ++ B ∧ A.length = B.length ∧ h'.get b = some (.cells false (encOp.all (B.reverse ++ M ++ A.reverse) ++ r)) ∧ Upd h h' [b] [b] ∧ e 0 = .slice (some ⟨b, 0, sp⟩) X.length c ∧ e 2 = .int .i64 A.length ∧ e 3 = .int .i64 ((A.length : Int) + M.length - 1)) ?_ X.length _ _ ⟨[], X, [], rfl, by simp, rfl, by simpa using hg, .refl, by simp, by simp, by simp⟩
  rintro n ih e h' ⟨A, M, B, rfl, hX, hAB, hg', U, e0, e2, e3⟩
  have hlt := lt_of_get hg'
  have hXl : X.length = A.length + M.length + B.length := by rw [hX]; simp [Nat.add_assoc]
  match M with
  | [] =>
    simp at e3
    have t : ¬ ((A.length : Int) < A.length - 1) := by omega
    simp (maxSteps:=9^7)(disch:=first|assumption|((try simp only[nX]);omega)|simp) [e0, e2, e3, t]
    refine ⟨?_, U⟩
    rw [hg', hX]; simp
  | [x] =>
    have e3' : e 3 = .int .i64 A.length := by rw [e3]; simp
    simp (maxSteps:=9^7)(disch:=first|assumption|((try simp only[nX]);omega)|simp) [e0, e2, e3']
    refine ⟨?_, U⟩
    rw [hg', hX]; simp
  | x :: y :: M' =>
    obtain ⟨M2, z, hM2⟩ := snoc_of (X := y :: M') (by simp)
    rw [hM2] at hX hg' e3 hXl ih
    simp only [List.length_cons, List.length_append, List.length_nil] at e3 hXl
    have e3' : e 3 = .int .i64 ((A.length + M2.length + 1 : Nat) : Int) := by rw [e3]; congr 1; omega
    have t : (A.length : Int) < ((A.length + M2.length + 1 : Nat) : Int) := by omega
    have rz : h'.rdn b ((A.length + M2.length + 1) * 5) 5 = some (encOp.enc z) := by
      have := rd_mid (E := encOp) (ro := false) (r := r) (A := B.reverse ++ x :: M2) (x := z) (B := A.reverse) (h := h') (b := b) (by rw [hg']; simp)
      have e : (B.reverse ++ x :: M2).length = A.length + M2.length + 1 := by simp; omega
      rw [e] at this
      exact this
    have rx : h'.rdn b (A.length * 5) 5 = some (encOp.enc x) := by
      have := rd_mid (E := encOp) (ro := false) (r := r) (A := B.reverse) (x := x) (B := M2 ++ z :: A.reverse) (h := h') (b := b) (by rw [hg']; simp)
      have e : B.reverse.length = A.length := by simp; omega
      rw [e] at this
      exact this
    have wx : h'.wr b (A.length * 5) (encOp.enc z) = some (h'.put b (some (.cells false (encOp.all (B.reverse ++ z :: (M2 ++ z :: A.reverse)) ++ r)))) := by
      have := wr_mid (E := encOp) (r := r) (A := B.reverse) (x := x) (y := z) (B := M2 ++ z :: A.reverse) (h := h') (b := b) (by rw [hg']; simp)
      have e : B.reverse.length = A.length := by simp; omega
      rw [e] at this
      exact this
    have wz : (h'.put b (some (.cells false (encOp.all (B.reverse ++ z :: (M2 ++ z :: A.reverse)) ++ r)))).wr b ((A.length + M2.length + 1) * 5) (encOp.enc x) = some (h'.put b (some (.cells false (encOp.all ((B.reverse ++ z :: M2) ++ x :: A.reverse) ++ r)))) := by
      have := wr_mid (E := encOp) (r := r) (A := B.reverse ++ z :: M2) (x := z) (y := x) (B := A.reverse) (h := h'.put b (some (.cells false (encOp.all (B.reverse ++ z :: (M2 ++ z :: A.reverse)) ++ r)))) (b := b) (by rw [get_put_self hlt]; simp)
      have e : (B.reverse ++ z :: M2).length = A.length + M2.length + 1 := by simp; omega
      rw [e, put_put] at this
      exact this
    generalize encOp.all (B.reverse ++ z :: (M2 ++ z :: A.reverse)) ++ r = C1 at wx wz
    generalize hC2 : encOp.all ((B.reverse ++ z :: M2) ++ x :: A.reverse) ++ r = C2 at wz
    have hA1 : A.length < X.length := by omega
    have hA2 : A.length + M2.length + 1 < X.length := by omega
    have hA1' : (A.length : Int) < X.length := by omega
    have hA2' : ((A.length + M2.length + 1 : Nat) : Int) < X.length := by omega
    generalize hK : A.length + M2.length + 1 = K at e3' t rz wz hA2 hA2'
    simp (maxSteps:=9^7)(disch:=first|assumption|((try simp only[nX]);omega)|simp) [e0, e2, e3', t, rz, rx, wx, wz, hA1, hA2, hA1', hA2', encOp.len, -Hp.wr, -over]
    refine ih M2.length (by simp only [List.length_cons, List.length_append, List.length_nil]; omega) _ _ ⟨A ++ [x], M2, z :: B, rfl, by rw [hX]; simp, by simp [hAB], ?_, U.put1, by simp [e0], by simp, ?_⟩
    · rw [get_put_self hlt, ← hC2]; simp
    · simp; omega
end
end Go.Proofs.YtmgoleiafiffoaaGreat.Cd

/- Shorter rows: without what nobody asks. -/
set_option maxRecDepth 1000000
set_option maxHeartbeats 8000000
set_option linter.unusedSimpArgs false
set_option linter.unusedVariables false
namespace Go.Proofs.YtmgoleiafiffoaaGreat.Cd
open Go Go.Dx
section
variable {h : Hp} {q : Value → Hp → Prop} {b c c' : Nat} {o p : IOp} {R : Regs} {a a' : Option Addr} {L : List IOp} {lv : Live}
theorem rev_0 : WC T n_4k [.slice a 0 c] h fun _ h' => h' = h := by
  rw [w_4k]
  simp (maxSteps:=9^7)(disch:=first|assumption|((try simp only[nX]);omega)|simp) [G_round]
theorem rev_own {v : Value} {X : List IOp} {fp : List Nat} (O : Own encOp h v X fp) (hb : X.length < 2 ^ 60) : WC T n_4k [v] h fun _ h' => Own encOp h' v X.reverse fp ∧ Upd h h' fp fp := by
  cases O with
  | nul =>
    refine rev_0.mono fun v h' hh => ?_
    subst hh
    exact ⟨.nul, .refl⟩
  | emp hg =>
    refine rev_0.mono fun v h' hh => ?_
    subst hh
    exact ⟨.emp hg, .refl⟩
  | blk hg hn hc h0 hr =>
    subst hn
    refine (rev_blk hb hg).mono fun v h' ⟨hh, hu⟩ => ?_
    exact ⟨.blk hh (by simp) hc h0 hr, hu⟩
def OwnNew (h h' : Hp) (v : Value) (X : List IOp) : Prop := ∃ fp, Own encOp h' v X fp ∧ ∀ b ∈ fp, h.next ≤ b
def livej (j : Nat) : Live := fun c => decide (0 ≤ c ∧ c < (j : Int))
def lw1 (lv : Live) (o : IOp) (ws : List Int) : Live := fun c => if c ∈ ws then lv c && !isure o else lv c
def lw2 (lv : Live) (o : IOp) (xs : List Int) : Live := fun c => if c ∈ xs then true else if c ∈ iwrites o then lv c && !isure o else lv c
theorem lw1_nil (lv : Live) (o : IOp) : lw1 lv o [] = lv := by funext c; simp [lw1]
theorem lw2_nil (lv : Live) (o : IOp) : lw2 lv o [] = lw1 lv o (iwrites o) := by funext c; simp [lw1, lw2]
theorem lw2_all (lv : Live) (o : IOp) : lw2 lv o (ireads o) = lkeep o lv := rfl
theorem lw1_at (lv : Live) (o : IOp) (ws : List Int) (z : Int) : lw1 lv o ws z = if z ∈ ws then lv z && !isure o else lv z := rfl
theorem lw1_step (lv : Live) (o : IOp) (ws : List Int) (z : Int) : (fun c => if c = z then lv z && !isure o else lw1 lv o ws c) = lw1 lv o (ws ++ [z]) := by
  funext c
  simp only [lw1]
  by_cases hc : c = z
  · subst hc; simp
  · simp [hc]
theorem lw2_step (lv : Live) (o : IOp) (ws : List Int) (z : Int) : (fun c => if c = z then true else lw2 lv o ws c) = lw2 lv o (ws ++ [z]) := by
  funext c
  simp only [lw2]
  by_cases hc : c = z
  · subst hc; simp
  · simp [hc]
theorem opt_dead (hs : Sees encOp h a L) (hb : L.length < 2 ^ 40) : WC T n_11 [.slice a L.length c] h fun v h' => OwnNew h h' v (if oks L then idead L else []) ∧ Kp h h' := by
  rw [w_11]
  simp (maxSteps:=9^7)(disch:=first|assumption|((try simp only[nX]);omega)|simp) [-List.reduceReplicate]
  refine GC_intro (opt_right hs (by omega)) fun v h1 ⟨hv, K1⟩ => ?_
  subst hv
  by_cases hok : oks L
  case neg =>
    simp (maxSteps:=9^7)(disch:=first|assumption|((try simp only[nX]);omega)|simp) [-List.reduceReplicate, hok]
    exact ⟨⟨[], .nul, by simp⟩, K1⟩
  rw [if_pos hok]
  simp (maxSteps:=9^7)(disch:=first|assumption|((try simp only[nX]);omega)|simp) [-List.reduceReplicate, hok]
  have n1 := K1.le
  rw [← bls_false]
  refine G_loop (fun n e h' => ∃ j : Nat, n = 34 - j ∧ j ≤ 34 ∧ Kp h h' ∧ h'.get h1.next = some (.cells false (bls (livej j))) ∧ e 0 = .slice a L.length c ∧ e 3 = ptr h1.next 0 ∧ e 16 = .int .i64 j) ?_ 34 _ _ ⟨0, by simp, by simp, K1.push _, ?_, by simp, by simp, by simp⟩
  case refine_2 =>
    rw [get_push_self, bls_congr (a := fun _ => false) (b := livej 0) fun c h0 h1 => by simp only [livej]; symm; rw [decide_eq_false_iff_not]; omega]
  rintro n ih e h' ⟨j, rfl, hj, K, g, e0, e3, e16⟩
  have lt := lt_of_get g
  by_cases h34 : j = 34
  case neg =>
    have hj2 : (j : Int) < 34 := by omega
    have hj3 : (j : Int) ≤ 39 := by omega
    have o1 := fun (l : List Value) n v => over_set (l := l) (i := n) (v := v)
    have hj4 : j ≤ 39 := by omega
    simp (maxSteps:=9^7)(disch:=first|assumption|((try simp only[nX]);omega)|simp) [e0, e3, e16, hj2, hj3, hj4, g, -over, o1]
    refine ih (34 - (j + 1)) (by omega) _ _ ⟨j + 1, rfl, by omega, K.put n1 _, ?_, by simp [e0], by simp [e3], by simp⟩
    rw [get_put_self lt]
    have := bls_set (livej j) (i := j) true (by omega) (by omega)
    simp only [Int.toNat_natCast] at this
    rw [this]
    congr 2
    refine bls_congr fun c h0 h1 => ?_
    by_cases hc : c = j
    · subst hc; simp [livej]; omega
    · simp only [hc, if_false, livej]; rw [decide_eq_decide]; omega
  subst h34
  clear ih
  simp (maxSteps:=9^7)(disch:=first|assumption|((try simp only[nX]);omega)|simp) [e0, e3, e16]
  refine G_loop (fun n e h' => ∃ us vs fp, n = us.length ∧ L = us ++ vs ∧ Own encOp h' (e 5) (drun vs).2.reverse fp ∧ (∀ b ∈ fp, h1.next < b) ∧ Kp h h' ∧ h'.get h1.next = some (.cells false (bls (drun vs).1)) ∧ e 0 = .slice a L.length c ∧ e 3 = ptr h1.next 0 ∧ e 6 = .int .i64 ((us.length : Int) - 1)) ?_ L.length _ _ ⟨L, [], [], rfl, by simp, by simp; exact .nul, by simp, K, g, by simp [e0], by simp [e3], by simp⟩
  clear K g e0 e3 e16 hj lt
  rintro n ih e h' ⟨us, vs, fp, rfl, hx, O, hfp, K, g, e0, e3, e6⟩
  have lt := lt_of_get g
  have hDl : (drun vs).2.length ≤ vs.length := idead_len vs
  have hxl : L.length = us.length + vs.length := by rw [hx]; simp
  rcases List.eq_nil_or_concat us with rfl | ⟨us, o, rfl⟩
  · simp at e6
    have hLv : L = vs := by simpa using hx
    simp (maxSteps:=9^7)(disch:=first|assumption|((try simp only[nX]);omega)|simp) [e0, e3, e6]
    refine GC_intro (rev_own O (by simp; omega)) fun v h2 ⟨O2, U2⟩ => ?_
    simp (maxSteps:=9^7)(disch:=first|assumption|((try simp only[nX]);omega)|simp)
    refine ⟨⟨fp, ?_, fun b hb => by have := hfp b hb; omega⟩, U2.kp' K (fun b hb => by have := hfp b hb; omega)⟩
    simpa [hLv, idead] using O2
  rw [List.concat_eq_append] at hx e6 hxl ih
  have hlen : us.length < L.length := by rw [hx]; simp
  have hlen' : (us.length : Int) < L.length := by omega
  have e6' : e 6 = .int .i64 us.length := by rw [e6]; simp
  have t0 : (0 : Int) ≤ us.length := by omega
  have hoo : o.ok := hok o (by rw [hx]; simp)
  have hx' : L = us ++ o :: vs := by rw [hx]; simp
  obtain ⟨A, rfl, hr⟩ := Sees.mid (A := us) (x := o) (B := vs) (by rw [← hx']; exact hs.kp K)
  have hr' : h'.rdn A.block (A.off + us.length * 5) 5 = some [.int .i64 o.k, .int .i64 o.d, .int .i64 o.a, .int .i64 o.b, u32 o.imm] := hr
  simp (maxSteps:=9^7)(disch:=first|assumption|((try simp only[nX]);omega)|simp) [e0, e3, e6', t0, hlen, hlen', hr']
  generalize hM : h'.push (.cells false [.int .i64 o.k, .int .i64 o.d, .int .i64 o.a, .int .i64 o.b, u32 o.imm]) = M
  have KM : Kp h' M := by rw [← hM]; exact (Kp.refl h').push _
  have gM : M.get h'.next = some (.cells false (encOp.enc o)) := by rw [← hM, get_push_self]; rfl
  have rM := rdn_all (n := 5) gM rfl
  simp only [encOp] at rM
  simp (maxSteps:=9^7)(disch:=first|assumption|((try simp only[nX]);omega)|simp) [rM]
  refine GC_intro (ir_writes (o := o)) fun v h2 ⟨hz, K2⟩ => ?_
  obtain ⟨aw, cw, rfl, sw⟩ := hz
  have K'2 : Kp h' h2 := KM.trans K2
  have g2 := (K'2.get _ lt).trans g
  have gO2 := (K2.get _ (lt_of_get gM)).trans gM
  have hwb : ∀ n ∈ iwrites o, 0 ≤ n ∧ n < 40 := fun n hn => ⟨by have := iwrites_ne hn; omega, (iwrites_ne hn).2⟩
  simp (maxSteps:=9^7)(disch:=first|assumption|((try simp only[nX]);omega)|simp) [e3]
  refine GC_intro (any_live sw hwb (iwrites_len o) g2) fun v h3 ⟨hv, K3⟩ => ?_
  subst hv
  have K'3 : Kp h' h3 := K'2.trans K3
  have g3 := (K3.get _ (lt_of_get g2)).trans g2
  have gO3 := (K3.get _ (lt_of_get gO2)).trans gO2
  have O3 := O.kp K'3
  by_cases hl : lany o (drun vs).1 = true
  case neg =>
    have hl' : (iwrites o).any (drun vs).1 = false := by simpa [lany] using hl
    have hd : drun (o :: vs) = drun vs := by rw [drun_cons]; unfold dstep; rw [if_neg hl]
    simp (maxSteps:=9^7)(disch:=first|assumption|((try simp only[nX]);omega)|simp) [hl', e6']
    refine ih us.length (by simp) _ _ ⟨us, o :: vs, fp, rfl, hx', by rw [hd]; simpa using O3, hfp, K.trans K'3, by rw [hd]; exact g3, by simp [e0], by simp [e3], by simp⟩
  have hl' : (iwrites o).any (drun vs).1 = true := hl
  have hd : drun (o :: vs) = (lkeep o (drun vs).1, o :: (drun vs).2) := by rw [drun_cons]; unfold dstep; rw [if_pos hl]
  have o1 := fun (l : List Value) n v => over_set (l := l) (i := n) (v := v)
  have sw3 := sw.kp K3
  simp (maxSteps:=9^7)(disch:=first|assumption|((try simp only[nX]);omega)|simp) [hl']
  have lb1 : h1.next ≠ h'.next := by omega
  refine G_loop (fun n e' h4 => ∃ ws zs, n = zs.length ∧ iwrites o = ws ++ zs ∧ Upd h3 h4 [h1.next] [h1.next] ∧ h4.get h1.next = some (.cells false (bls (lw1 (drun vs).1 o ws))) ∧ e' 0 = e 0 ∧ e' 3 = ptr h1.next 0 ∧ e' 5 = e 5 ∧ e' 6 = .int .i64 us.length ∧ e' 7 = ptr h'.next 0 ∧ e' 39 = .slice aw (iwrites o).length cw ∧ e' 40 = .int .i64 (iwrites o).length ∧ e' 41 = .int .i64 ws.length) ?_ (iwrites o).length _ _ ⟨[], iwrites o, rfl, rfl, .refl, by rw [lw1_nil]; exact g3, by simp, by simp [e3], by simp, by simp [e6'], by simp, by simp, by simp, by simp⟩
  have hwl := iwrites_len o
  rintro n ih2 e' h4 ⟨ws, zs, rfl, hw, U4, g4, f0, f3, f5, f6, f7, f39, f40, f41⟩
  have lt4 := lt_of_get g4
  have gO4 : h4.get h'.next = some (.cells false (encOp.enc o)) := by rw [U4.get _ (lt_of_get gO3) (by simpa using lb1.symm), gO3]
  cases zs with
  | cons z zs =>
    have hzm : z ∈ iwrites o := by rw [hw]; simp
    obtain ⟨z0, z1⟩ := hwb z hzm
    have z2 : z ≤ 39 := by omega
    have hll : ws.length < (iwrites o).length := by rw [hw]; simp
    have hll' : (ws.length : Int) < (iwrites o).length := by omega
    obtain ⟨B, ro, C, rfl, k1, k2⟩ := Sees.cell (f := fun n => Value.int .i64 n) (fun _ => rfl) rfl (us := ws) (x := z) (vs := zs) (by rw [← hw]; exact sw3)
    have hB : B.block ≠ h1.next := fun hh => by
      rw [hh, g3] at k1
      cases k1
      have : B.off + ws.length < 40 := by
        apply Classical.byContradiction
        intro hge
        rw [List.getElem?_eq_none (by simp; omega)] at k2
        cases k2
      rw [bls_nat _ this] at k2
      cases k2
    have k1' : h4.get B.block = some (.cells ro C) := by rw [U4.get _ (lt_of_get k1) (by simpa using hB), k1]
    have bz := bls_at (lw1 (drun vs).1 o ws) z0 z1
    have rO4 := rdn_all (n := 5) gO4 rfl
    simp only [encOp] at rO4
    have sure' := fun (h : Hp) (q : Value → Hp → Prop) => opt_sure (h := h) (q := q) (o := o)
    simp only [encOp] at sure'
    have hset := bls_set (lw1 (drun vs).1 o ws) (i := z) ((drun vs).1 z && !isure o) z0 z1
    have hcon := lw1_step (drun vs).1 o ws z
    have lt4' : h1.next < (h4.push (Ob.cells false [.int .i64 o.k, .int .i64 o.d, .int .i64 o.a, .int .i64 o.b, u32 o.imm])).next := by simp; omega
    have hlwz := lw1_at (drun vs).1 o ws z
    rw [hcon] at hset
    by_cases hz : lw1 (drun vs).1 o ws z = true
    · have hval : ((drun vs).1 z && !isure o) = !isure o := by
        rw [hlwz] at hz
        split at hz
        · simp at hz; simp [hz]
        · simp [hz]
      rw [hval] at hset
      simp only [hz] at bz
      simp (maxSteps:=9^7)(disch:=first|assumption|((try simp only[nX]);omega)|simp) [f3, f7, f39, f40, f41, hll', k1', k2, g4, bz, z2, rO4, GC_of (fun q => sure' _ q), -over, o1]
      refine ih2 zs.length (by simp) _ _ ⟨ws ++ [z], zs, rfl, by simp [hw], ?_, ?_, by simp [f0], by simp [f3], by simp [f5], by simp [f6], by simp [f7], by simp [f39], by simp [f40], by simp⟩
      · exact (U4.one ((Kp.refl h4).push _)).put1
      · rw [get_put_self lt4', hset]
    · have hz' : lw1 (drun vs).1 o ws z = false := by simpa using hz
      have hval : ((drun vs).1 z && !isure o) = false := by
        rw [hlwz] at hz'
        split at hz'
        · exact hz'
        · simp [hz']
      rw [hval] at hset
      simp only [hz'] at bz
      simp (maxSteps:=9^7)(disch:=first|assumption|((try simp only[nX]);omega)|simp) [f3, f7, f39, f40, f41, hll', k1', k2, g4, bz, z2, rO4, GC_of (fun q => sure' _ q), -over, o1]
      refine ih2 zs.length (by simp) _ _ ⟨ws ++ [z], zs, rfl, by simp [hw], U4.put1, ?_, by simp [f0], by simp [f3], by simp [f5], by simp [f6], by simp [f7], by simp [f39], by simp [f40], by simp⟩
      rw [get_put_self lt4, hset]
  | nil =>
    have hws : iwrites o = ws := by simpa using hw
    have hll : ((iwrites o).length : Int) = ws.length := by rw [hws]
    clear ih2
    rw [← hws] at g4
    have rO4 := rdn_all (n := 5) gO4 rfl
    simp only [encOp] at rO4
    simp (maxSteps:=9^7)(disch:=first|assumption|((try simp only[nX]);omega)|simp) [f7, f39, f40, f41, hll, rO4]
    refine GC_intro (ir_reads (o := o)) fun v h5 ⟨hz5, K5⟩ => ?_
    obtain ⟨ar, cr, rfl, sr⟩ := hz5
    have g5 := (K5.get _ lt4).trans g4
    have gO5 := (K5.get _ (lt_of_get gO4)).trans gO4
    have hrl := ireads_len o
    simp (maxSteps:=9^7)(disch:=first|assumption|((try simp only[nX]);omega)|simp) []
    refine G_loop (fun n e2 h6 => ∃ ws zs, n = zs.length ∧ ireads o = ws ++ zs ∧ Upd h5 h6 [h1.next] [h1.next] ∧ h6.get h1.next = some (.cells false (bls (lw2 (drun vs).1 o ws))) ∧ e2 0 = e 0 ∧ e2 3 = ptr h1.next 0 ∧ e2 5 = e 5 ∧ e2 6 = .int .i64 us.length ∧ e2 7 = ptr h'.next 0 ∧ e2 57 = .slice ar (ireads o).length cr ∧ e2 58 = .int .i64 (ireads o).length ∧ e2 59 = .int .i64 ws.length) ?_ (ireads o).length _ _ ⟨[], ireads o, rfl, rfl, .refl, by rw [lw2_nil]; exact g5, by simp [f0], by simp [f3], by simp [f5], by simp [f6], by simp [f7], by simp, by simp, by simp⟩
    rintro n ih3 e2 h6 ⟨xs, zs, rfl, hw6, U6, g6, d0, d3, d5, d6, d7, d57, d58, d59⟩
    have lt6 := lt_of_get g6
    cases zs with
    | cons z zs =>
      have hzm : z ∈ ireads o := by rw [hw6]; simp
      obtain ⟨z0, z1⟩ := ireads_in hzm
      have z2 : z ≤ 39 := by omega
      have hll6 : (xs.length : Int) < (ireads o).length := by rw [hw6]; simp; omega
      obtain ⟨B, ro, C, rfl, k1, k2⟩ := Sees.cell (f := fun n => Value.int .i64 n) (fun _ => rfl) rfl (us := xs) (x := z) (vs := zs) (by rw [← hw6]; exact sr)
      have hB : B.block ≠ h1.next := fun hh => by
        rw [hh, g5] at k1
        cases k1
        have : B.off + xs.length < 40 := by
          apply Classical.byContradiction
          intro hge
          rw [List.getElem?_eq_none (by simp; omega)] at k2
          cases k2
        rw [bls_nat _ this] at k2
        cases k2
      have k1' : h6.get B.block = some (.cells ro C) := by rw [U6.get _ (lt_of_get k1) (by simpa using hB), k1]
      have hset := bls_set (lw2 (drun vs).1 o xs) (i := z) true z0 z1
      rw [lw2_step] at hset
      simp (maxSteps:=9^7)(disch:=first|assumption|((try simp only[nX]);omega)|simp) [d3, d57, d58, d59, hll6, k1', k2, g6, z2, -over, o1]
      refine ih3 zs.length (by simp) _ _ ⟨xs ++ [z], zs, rfl, by simp [hw6], U6.put1, ?_, by simp [d0], by simp [d3], by simp [d5], by simp [d6], by simp [d7], by simp [d57], by simp [d58], by simp⟩
      rw [get_put_self lt6, hset]
    | nil =>
      have hxs : ireads o = xs := by simpa using hw6
      have hll6 : ((ireads o).length : Int) = xs.length := by rw [hxs]
      rw [← hxs] at g6
      have gO6 : h6.get h'.next = some (.cells false (encOp.enc o)) := by rw [U6.get _ (lt_of_get gO5) (by simpa using lb1.symm), gO5]
      have rO6 := rdn_all (n := 5) gO6 rfl
      simp only [encOp] at rO6
      have fpl : ∀ b ∈ fp, b < h'.next := fun b hb => O.live b hb
      have O6 : Own encOp h6 (e 5) (drun vs).2.reverse fp := O.keep fun b hb => by
        have h1 := fpl b hb
        have h2 := hfp b hb
        have l3 := K'3.le
        have l4 := U4.le
        have l5 := K5.le
        rw [U6.get _ (by omega) (by simp; omega), K5.get _ (by omega), U4.get _ (by omega) (by simp; omega), K'3.get _ h1]
      have K6 : Kp h h6 := by
        have := (U4.trans ((K5.upd _).trans U6)).kp' (K.trans K'3) (by simp; exact n1)
        exact this
      simp (maxSteps:=9^7)(disch:=first|assumption|((try simp only[nX]);omega)|simp) [d5, d7, d57, d58, d59, hll6, rO6]
      refine GV_app1 (E := encOp) (bytes := 40) (x := o) O6 (by simp; omega) (by simp; omega) fun v' h7 fp' O7 U7 => ?_
      simp (maxSteps:=9^7)(disch:=first|assumption|((try simp only[nX]);omega)|simp) [d6]
      refine ih us.length (by simp) _ _ ⟨us, o :: vs, fp', rfl, hx', ?_, fun b hb => ?_, U7.kp' K6 (fun b hb => by have := hfp b hb; omega), ?_, by simp [d0, e0], by simp [d3], by simp⟩
      · rw [hd]; simpa using O7
      · rcases U7.sub b hb with h8 | h8
        · exact hfp b h8
        · omega
      · rw [U7.get _ lt6 (fun hh => by have := hfp _ hh; omega), g6, hd, lw2_all]
end
end Go.Proofs.YtmgoleiafiffoaaGreat.Cd
