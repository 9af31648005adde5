/- The lines: what each function does. -/
import Derived.Test.YtppgoobhlcdbbaaCdT
import Derived.Test.YtppgoobhlcdbbaaSx7
set_option maxRecDepth 1000000
set_option linter.unusedSimpArgs false
namespace Go.Proofs.Ytppgoobhlcdbbaa.Cd
open Go Go.Dx
theorem k32_0 : Value.int .u32 0 = u32 0 := rfl
theorem k32_1 : Value.int .u32 1 = u32 1 := rfl
theorem k32_4 : Value.int .u32 4 = u32 4 := rfl
theorem k32_8 : Value.int .u32 8 = u32 8 := rfl
theorem k32_12 : Value.int .u32 12 = u32 12 := rfl
theorem k32_62 : Value.int .u32 62 = u32 62 := rfl
section
variable {h : Hp} {b : Nat} {r m : BitVec 32} {q : Value → Hp → Prop}
def Ln (h : Hp) (b : Nat) (r m : BitVec 32) : Prop := h.get b = some (.cells false [u32 r, u32 m])
theorem raised (hb : Ln h b r m) : WC T n_lines_Lines_Raised [ptr b 0] h q ↔ q (.bool (r &&& m != 0)) h := by
  unfold Ln at hb
  rw [w_lines_Lines_Raised]
  simp [Hp.rd, Hp.cells, hb, k32_0, and_u32, neq_u32]
theorem new : WC T n_lines_New [] h q ↔ q (ptr h.next 0) (h.push (.cells false [u32 0, u32 0])) := by
  rw [w_lines_New]
  simp [opA, k32_0, fillIn, evp, Value.cells]
/-- A line up or down. -/
def lset (d : Int) (up : Bool) (r : BitVec 32) : BitVec 32 :=
  if d < 1 ∨ 5 < d then r else if up then r &&& ~~~ (1#32 <<< d.toNat) ||| 1#32 <<< d.toNat else r &&& ~~~ (1#32 <<< d.toNat)
theorem shl_u32_I (x : BitVec 32) {k : IntKind} {n : Int} (hn : 0 ≤ n) : binV .shl (u32 x) (.int k n) = some (u32 (x <<< n.toNat)) := by
  obtain ⟨m, rfl⟩ := Int.eq_ofNat_of_zero_le hn
  exact shl_u32_n x k m
theorem binV_lss64 (a b : Int) : binV .lss (.int .i64 a) (.int .i64 b) = some (.bool (decide (a < b))) := rfl
theorem binV_gtr64 (a b : Int) : binV .gtr (.int .i64 a) (.int .i64 b) = some (.bool (decide (a > b))) := rfl
theorem set {d : Int} {up : Bool} (hb : Ln h b r m) : WC T n_lines_Lines_Set [ptr b 0, .int .i64 d, .bool up] h q ↔ q (.tuple #[]) (if d < 1 ∨ 5 < d then h else h.put b (some (.cells false [u32 (lset d up r), u32 m]))) := by
  have hlt := lt_of_get hb
  unfold Ln at hb
  rw [w_lines_Lines_Set]
  by_cases h1 : d < 1
  · simp [binV_lss64, binV_gtr64, h1]
  by_cases h2 : 5 < d
  · simp [binV_lss64, binV_gtr64, h1, h2]
  have h3 : 0 ≤ d := by omega
  cases up <;> simp [Hp.rd, Hp.cells, Hp.wr, over, hb, get_put_self hlt, k32_1, h1, h2, lset, andNot_u32, or_u32, shl_u32_I _ h3, binV_lss64, binV_gtr64]
/-- Which words there are. -/
def lat (at' : BitVec 32) : Bool := at' == 4 || at' == 0 || at' == 8 || at' == 12
theorem write {at' v : BitVec 32} (hb : Ln h b r m) : WC T n_lines_Lines_Write [ptr b 0, u32 at', u32 v] h q ↔ q (.bool (lat at')) (if at' = 4 then h.put b (some (.cells false [u32 r, u32 (v &&& 62)])) else h) := by
  have hlt := lt_of_get hb
  unfold Ln at hb
  rw [w_lines_Lines_Write]
  by_cases h4 : at' = 4#32
  · simp [Hp.rd, Hp.cells, Hp.wr, over, hb, get_put_self hlt, h4, eql_u32, and_u32, k32_4, k32_62, lat]
  by_cases h0 : at' = 0#32
  · simp [Hp.rd, Hp.cells, Hp.wr, over, hb, get_put_self hlt, h0, eql_u32, and_u32, k32_4, k32_0, k32_8, k32_12, k32_62, lat]
  by_cases h8 : at' = 8#32
  · simp [Hp.rd, Hp.cells, Hp.wr, over, hb, get_put_self hlt, h8, eql_u32, and_u32, k32_4, k32_0, k32_8, k32_12, k32_62, lat]
  by_cases h12 : at' = 12#32
  · simp [Hp.rd, Hp.cells, Hp.wr, over, hb, get_put_self hlt, h12, eql_u32, and_u32, k32_4, k32_0, k32_8, k32_12, k32_62, lat]
  have e4 : (at' == 4#32) = false := by simpa using h4
  have e0 : (at' == 0#32) = false := by simpa using h0
  have e8 : (at' == 8#32) = false := by simpa using h8
  have e12 : (at' == 12#32) = false := by simpa using h12
  simp [Hp.rd, Hp.cells, Hp.wr, over, hb, get_put_self hlt, e4, e0, e8, e12, h0, h4, h8, h12, eql_u32, and_u32, k32_4, k32_0, k32_8, k32_12, k32_62, lat]
/-- What a word says. -/
def lrd (r m at' : BitVec 32) (now : Int) : BitVec 32 :=
  if at' = 0 then r else if at' = 4 then m else if at' = 8 then BitVec.ofInt 32 now else if at' = 12 then BitVec.ofInt 32 (now.fdiv 4294967296) else 0
theorem read {at' : BitVec 32} {now : Int} (hb : Ln h b r m) : WC T n_lines_Lines_Read [ptr b 0, u32 at', .int .i64 now] h q ↔ q (.tuple #[u32 (lrd r m at' now), .bool (lat at')]) h := by
  have hlt := lt_of_get hb
  unfold Ln at hb
  rw [w_lines_Lines_Read]
  have hsh : binV .shr (.int .i64 now) (.int .u64 32) = some (.int .i64 (now.fdiv 4294967296)) := rfl
  by_cases h0 : at' = 0#32
  · simp [cvt_u32_int, int_u32, Hp.rd, Hp.cells, Hp.wr, over, hb, get_put_self hlt, h0, eql_u32, and_u32, k32_4, k32_0, k32_8, k32_12, k32_62, lat, lrd, hsh, cvt_u32_int]
  by_cases h4 : at' = 4#32
  · simp [cvt_u32_int, int_u32, Hp.rd, Hp.cells, Hp.wr, over, hb, get_put_self hlt, h4, eql_u32, and_u32, k32_4, k32_0, k32_8, k32_12, k32_62, lat, lrd, hsh, cvt_u32_int]
  by_cases h8 : at' = 8#32
  · simp [cvt_u32_int, int_u32, Hp.rd, Hp.cells, Hp.wr, over, hb, get_put_self hlt, h8, eql_u32, and_u32, k32_4, k32_0, k32_8, k32_12, k32_62, lat, lrd, hsh, cvt_u32_int]
  by_cases h12 : at' = 12#32
  · simp [cvt_u32_int, int_u32, Hp.rd, Hp.cells, Hp.wr, over, hb, get_put_self hlt, h12, eql_u32, and_u32, k32_4, k32_0, k32_8, k32_12, k32_62, lat, lrd, hsh, cvt_u32_int]
  have e4 : (at' == 4#32) = false := by simpa using h4
  have e0 : (at' == 0#32) = false := by simpa using h0
  have e8 : (at' == 8#32) = false := by simpa using h8
  have e12 : (at' == 12#32) = false := by simpa using h12
  simp [cvt_u32_int, int_u32, Hp.rd, Hp.cells, Hp.wr, over, hb, get_put_self hlt, e4, e0, e8, e12, h0, h4, h8, h12, eql_u32, and_u32, k32_4, k32_0, k32_8, k32_12, k32_62, lat, lrd, hsh, cvt_u32_int]
theorem known : WC T n_pianolalaw10_known [] h fun v h' => v = .bool true ∧ ∀ b, b < h.next → h'.get b = h.get b := by
  have L0 : Ln (h.push (.cells false [u32 0#32, u32 0#32])) h.next 0#32 0#32 := get_push_self
  have L1 : Ln ((h.push (.cells false [u32 0#32, u32 0#32])).put h.next (some (.cells false [u32 (lset 3 true 0#32), u32 0#32]))) h.next (lset 3 true 0#32) 0#32 := get_put_self (by simp)
  have L2 : Ln ((h.push (.cells false [u32 0#32, u32 0#32])).put h.next (some (.cells false [u32 (lset 3 true 0#32), u32 8#32]))) h.next (lset 3 true 0#32) 8#32 := get_put_self (by simp)
  have e1 : lset 3 true 0#32 &&& 8#32 = 8#32 := by decide
  rw [w_pianolalaw10_known]
  simp [GC_of (fun q => new), GC_of (fun q => raised L0), GC_of (fun q => set L0), GC_of (fun q => write L1), GC_of (fun q => read L2), GC_of (fun q => raised L2), k32_4, k32_0, k32_8, k32_1, show lat 4#32 = true from rfl, show lat 1#32 = false from rfl, e1]
  intro b hb
  rw [get_put_ne (by omega), get_push_ne (by omega)]
theorem binV_rem64 (a b : Int) : binV .rem (.int .i64 a) (.int .i64 b) = if b = 0 then none else some (.int .i64 (a.tmod b)) := rfl
theorem binV_add64 (a b : Int) : binV .add (.int .i64 a) (.int .i64 b) = some (.int .i64 (IntKind.i64.wrap (a + b))) := rfl
theorem and_off (a v c : BitVec 32) : a &&& (v &&& ~~~ a &&& c) = 0#32 := by
  apply BitVec.eq_of_getLsbD_eq
  intro i hi
  simp only [BitVec.getLsbD_and, BitVec.getLsbD_not, BitVec.getLsbD_zero]
  cases a.getLsbD i <;> simp
theorem and_on (a v c : BitVec 32) : a &&& ((v ||| a) &&& c) = a &&& c := by
  apply BitVec.eq_of_getLsbD_eq
  intro i hi
  simp
  cases a.getLsbD i <;> simp
theorem and_not (a : BitVec 32) : a &&& ~~~ a = 0#32 := by
  apply BitVec.eq_of_getLsbD_eq
  intro i hi
  simp
theorem mask_at {D : Int} {a : BitVec 32} (h1 : 1 ≤ D) (h5 : D ≤ 5) (ha : 1#32 <<< D.toNat = a) :
    lset D true 0#32 = a ∧ lset D false a = 0#32 := by
  have c1 : ¬ (D < 1 ∨ 5 < D) := by omega
  unfold lset
  simp only [c1, if_false, ha, if_true, Bool.false_eq_true]
  exact ⟨by simp, and_not a⟩
theorem mask {d : Int} {v : BitVec 32} : WC T n_pianolalaw10_LinesMask [.int .i64 d, u32 v] h fun u _ => u = .bool true := by
  have hb1 : -5 < d.tmod 5 ∧ d.tmod 5 < 5 := ⟨by have := Int.tmod_lt_of_pos (-d) (show (0 : Int) < 5 by decide); rw [Int.neg_tmod] at this; omega, Int.tmod_lt_of_pos d (by decide)⟩
  have hw : IntKind.i64.wrap (d.tmod 5 + 5) = d.tmod 5 + 5 := wrap_i64 (by omega) (by omega)
  have hb2 : 0 ≤ (d.tmod 5 + 5).tmod 5 ∧ (d.tmod 5 + 5).tmod 5 < 5 := ⟨Int.tmod_nonneg _ (by omega), Int.tmod_lt_of_pos _ (by decide)⟩
  have hw2 : IntKind.i64.wrap (1 + (d.tmod 5 + 5).tmod 5) = 1 + (d.tmod 5 + 5).tmod 5 := wrap_i64 (by omega) (by omega)
  generalize hD : 1 + (d.tmod 5 + 5).tmod 5 = D at hw2
  have h1 : 1 ≤ D := by omega
  have h5 : D ≤ 5 := by omega
  have hcv : BitVec.toNat (BitVec.ofInt 64 D) = D.toNat := by
    rw [BitVec.toNat_ofInt]
    omega
  generalize ha : 1#32 <<< D.toNat = a
  have hc : a &&& 62#32 = a ∧ (a = 0#32) = False := by
    have : D = 1 ∨ D = 2 ∨ D = 3 ∨ D = 4 ∨ D = 5 := by omega
    rcases this with e | e | e | e | e <;> subst e <;> subst ha <;> decide
  obtain ⟨s1, s2⟩ := mask_at h1 h5 ha
  have c1 : (D < 1 ∨ 5 < D) = False := by simp; omega
  have L0 : Ln (h.push (.cells false [u32 0#32, u32 0#32])) h.next 0#32 0#32 := get_push_self
  have L1 (x y : BitVec 32) : Ln ((h.push (.cells false [u32 0#32, u32 0#32])).put h.next (some (.cells false [u32 x, u32 y]))) h.next x y := get_put_self (by simp)
  rw [w_pianolalaw10_LinesMask]
  simp [GC_of (fun q => new), GC_of (fun q => raised L0), GC_of (fun q => set L0), GC_of (fun q => write (L1 _ _)), GC_of (fun q => raised (L1 _ _)), GC_of (fun q => set (L1 _ _)), binV_rem64, binV_add64, hw, hw2, hD, cvt_u64_int, shl_u32_u64, hcv, ha, s1, s2, c1, andNot_u32, or_u32, and_off, and_on, hc, k32_4, k32_0, k32_8, k32_1, show lat 4#32 = true from rfl, show lat 0#32 = true from rfl]
  unfold GC
  refine known.mono fun u g hu => ?_
  obtain ⟨rfl, _⟩ := hu
  simp
end
end Go.Proofs.Ytppgoobhlcdbbaa.Cd
