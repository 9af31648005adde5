/- Texts of one kind, one behind the other. -/
import Derived.Test.YtmgoleiafiffoaaGreatMd1
import Derived.Test.YtmgoleiafiffoaaGreatMdz0
import Derived.Test.YtmgoleiafiffoaaGreatMcz0
import Derived.Test.YtmgoleiafiffoaaGreatMeBlockNumbers1
import Derived.Test.YtmgoleiafiffoaaGreatMeBlockNumbers2
/- The document's tables of instructions. -/
set_option maxRecDepth 1000000
set_option maxHeartbeats 8000000
set_option linter.unusedSimpArgs false
set_option linter.unusedVariables false
namespace Go.Proofs.YtmgoleiafiffoaaGreat.Cd
open Go Go.Dx
/-- A row of the table. -/
structure Rw where
  op : Int
  sub : Int
  k : Int
  f : ByteArray
def encRw : Enc Rw := ⟨4, fun x => [.int .i64 x.op, .int .i64 x.sub, .int .i64 x.k, .string x.f], fun _ => rfl, fun _ => rfl, by decide⟩
@[simp] theorem encRw_sz : encRw.sz = 4 := rfl
def spRows : List Rw := [⟨0, 0, 1, ⟨#[116, 100, 104]⟩⟩, ⟨0, 2, 2, ⟨#[116, 100, 104]⟩⟩, ⟨0, 3, 3, ⟨#[116, 100, 104]⟩⟩, ⟨0, 4, 4, ⟨#[115, 116, 100]⟩⟩, ⟨0, 6, 5, ⟨#[115, 116, 100]⟩⟩, ⟨0, 7, 6, ⟨#[115, 116, 100]⟩⟩, ⟨0, 8, 7, ⟨#[115]⟩⟩, ⟨0, 9, 8, ⟨#[115, 100]⟩⟩, ⟨0, 10, 9, ⟨#[115, 116, 100]⟩⟩, ⟨0, 11, 10, ⟨#[115, 116, 100]⟩⟩, ⟨0, 12, 11, .empty⟩, ⟨0, 13, 12, .empty⟩, ⟨0, 15, 13, .empty⟩, ⟨0, 16, 14, ⟨#[100]⟩⟩, ⟨0, 17, 15, ⟨#[115]⟩⟩, ⟨0, 18, 16, ⟨#[100]⟩⟩, ⟨0, 19, 17, ⟨#[115]⟩⟩, ⟨0, 24, 18, ⟨#[115, 116]⟩⟩, ⟨0, 25, 19, ⟨#[115, 116]⟩⟩, ⟨0, 26, 20, ⟨#[115, 116]⟩⟩, ⟨0, 27, 21, ⟨#[115, 116]⟩⟩, ⟨0, 32, 22, ⟨#[115, 116, 100]⟩⟩, ⟨0, 33, 23, ⟨#[115, 116, 100]⟩⟩, ⟨0, 34, 24, ⟨#[115, 116, 100]⟩⟩, ⟨0, 35, 25, ⟨#[115, 116, 100]⟩⟩, ⟨0, 36, 26, ⟨#[115, 116, 100]⟩⟩, ⟨0, 37, 27, ⟨#[115, 116, 100]⟩⟩, ⟨0, 38, 28, ⟨#[115, 116, 100]⟩⟩, ⟨0, 39, 29, ⟨#[115, 116, 100]⟩⟩, ⟨0, 42, 30, ⟨#[115, 116, 100]⟩⟩, ⟨0, 43, 31, ⟨#[115, 116, 100]⟩⟩, ⟨0, 48, 32, ⟨#[115, 116]⟩⟩, ⟨0, 50, 33, ⟨#[115, 116]⟩⟩, ⟨0, 52, 34, ⟨#[115, 116]⟩⟩, ⟨0, 54, 35, ⟨#[115, 116]⟩⟩]
def plRows : List Rw := [⟨2, 0, 40, ⟨#[106]⟩⟩, ⟨3, 0, 41, ⟨#[106]⟩⟩, ⟨4, 0, 42, ⟨#[115, 116, 105]⟩⟩, ⟨5, 0, 43, ⟨#[115, 116, 105]⟩⟩, ⟨6, 0, 44, ⟨#[115, 105]⟩⟩, ⟨7, 0, 45, ⟨#[115, 105]⟩⟩, ⟨8, 0, 46, ⟨#[115, 116, 105]⟩⟩, ⟨9, 0, 47, ⟨#[115, 116, 105]⟩⟩, ⟨10, 0, 48, ⟨#[115, 116, 105]⟩⟩, ⟨11, 0, 49, ⟨#[115, 116, 105]⟩⟩, ⟨12, 0, 50, ⟨#[115, 116, 105]⟩⟩, ⟨13, 0, 51, ⟨#[115, 116, 105]⟩⟩, ⟨14, 0, 52, ⟨#[115, 116, 105]⟩⟩, ⟨15, 0, 53, ⟨#[116, 105]⟩⟩, ⟨17, 0, 62, .empty⟩, ⟨32, 0, 66, ⟨#[115, 116, 105]⟩⟩, ⟨33, 0, 67, ⟨#[115, 116, 105]⟩⟩, ⟨35, 0, 68, ⟨#[115, 116, 105]⟩⟩, ⟨36, 0, 69, ⟨#[115, 116, 105]⟩⟩, ⟨37, 0, 70, ⟨#[115, 116, 105]⟩⟩, ⟨40, 0, 71, ⟨#[115, 116, 105]⟩⟩, ⟨41, 0, 72, ⟨#[115, 116, 105]⟩⟩, ⟨43, 0, 73, ⟨#[115, 116, 105]⟩⟩, ⟨47, 0, 76, .empty⟩, ⟨48, 0, 74, ⟨#[115, 116, 105]⟩⟩, ⟨51, 0, 77, .empty⟩, ⟨56, 0, 75, ⟨#[115, 116, 105]⟩⟩]
def otRows : List Rw := [⟨1, 0, 36, ⟨#[115, 105]⟩⟩, ⟨1, 1, 37, ⟨#[115, 105]⟩⟩, ⟨1, 16, 38, ⟨#[115, 105]⟩⟩, ⟨1, 17, 39, ⟨#[115, 105]⟩⟩, ⟨16, 0, 54, ⟨#[116, 100]⟩⟩, ⟨16, 4, 55, ⟨#[116, 100]⟩⟩, ⟨16, 65, 56, .empty⟩, ⟨16, 66, 57, .empty⟩, ⟨16, 70, 58, .empty⟩, ⟨16, 72, 59, .empty⟩, ⟨16, 88, 60, .empty⟩, ⟨16, 96, 61, .empty⟩, ⟨28, 2, 63, ⟨#[115, 116, 100]⟩⟩, ⟨28, 32, 64, ⟨#[115, 100]⟩⟩, ⟨28, 33, 65, ⟨#[115, 100]⟩⟩]
theorem opV_len0 {e : Env} {h : Hp} {x : Dx.X} : opV e h (.len 0 x) = (match x.ev e with | .string s => some (.int .i64 s.size, h) | _ => none) := by
  simp only [opV]
  generalize x.ev e = v
  cases v <;> rfl
/-- A truth; a word; an instruction; a row and a truth. -/
def isB (v : Value) : Prop := ∃ t : Bool, v = .bool t
def isW (v : Value) : Prop := ∃ t : BitVec 32, v = u32 t
def isI (v : Value) : Prop := ∃ i : Ins, v = .agg (encIns.enc i).toArray
def isR (v : Value) : Prop := ∃ (r : Rw) (t : Bool), r.f.size < 2 ^ 40 ∧ v = .tuple #[.agg (encRw.enc r).toArray, .bool t]
@[simp] theorem isB_b (t : Bool) : isB (.bool t) := ⟨t, rfl⟩
@[simp] theorem isW_w (t : BitVec 32) : isW (u32 t) := ⟨t, rfl⟩
@[simp] theorem isI_i (a b c d e : Int) (m : BitVec 32) : isI (.agg #[.int .i64 a, .int .i64 b, .int .i64 c, .int .i64 d, .int .i64 e, u32 m]) := ⟨⟨a, b, c, d, e, m⟩, rfl⟩
theorem all_rdn {α : Type} (E : Enc α) {h : Hp} {b : Nat} {ro : Bool} {xs : List α} (hg : h.get b = some (.cells ro (E.all xs))) (k : Nat) (hk : k < xs.length) : h.rdn b (k * E.sz) E.sz = some (E.enc xs[k]) := by
  have := E.at' xs [] k hk
  rw [List.append_nil] at this
  have hm : (k + 1) * E.sz ≤ xs.length * E.sz := Nat.mul_le_mul_right _ hk
  rw [Nat.add_mul, Nat.one_mul] at hm
  simp only [Hp.rdn, Hp.cells, hg, Option.bind_some]
  rw [if_pos (by simp; omega), this]
section
variable {h : Hp} {q : Value → Hp → Prop}
theorem r_special : WC T n_3d [] h fun v h' => v = .slice (some ⟨h.next, 0, none⟩) 35 35 ∧ h' = h.push (.cells false (encRw.all spRows)) := by
  rw [w_3d]
  simp (maxSteps:=9^7)(disch:=first|assumption|((try simp only[nX]);omega)|simp) []
  rfl
theorem r_plain : WC T n_3a [] h fun v h' => v = .slice (some ⟨h.next, 0, none⟩) 27 27 ∧ h' = h.push (.cells false (encRw.all plRows)) := by
  rw [w_3a]
  simp (maxSteps:=9^7)(disch:=first|assumption|((try simp only[nX]);omega)|simp) []
  rfl
theorem r_others : WC T n_39 [] h fun v h' => v = .slice (some ⟨h.next, 0, none⟩) 15 15 ∧ h' = h.push (.cells false (encRw.all otRows)) := by
  rw [w_39]
  simp (maxSteps:=9^7)(disch:=first|assumption|((try simp only[nX]);omega)|simp) []
  rfl
theorem rows_f : (∀ r ∈ spRows, r.f.size < 2 ^ 40) ∧ (∀ r ∈ plRows, r.f.size < 2 ^ 40) ∧ (∀ r ∈ otRows, r.f.size < 2 ^ 40) := by
  refine ⟨?_, ?_, ?_⟩ <;> decide +kernel
end
end Go.Proofs.YtmgoleiafiffoaaGreat.Cd

/- decode: words. -/
set_option maxRecDepth 1000000
set_option maxHeartbeats 8000000
set_option linter.unusedSimpArgs false
set_option linter.unusedVariables false
namespace Go.Proofs.YtmgoleiafiffoaaGreat.Cd
open Go Go.Dx
section
variable {h : Hp} {q : Value → Hp → Prop} {w : BitVec 32} {k : Int}
theorem dec_cop0 : WC T n_0b [u32 w] h q ↔ q (.int .i64 (if w >>> 21 &&& 31#32 = 0#32 then 54 else if w >>> 21 &&& 31#32 = 4#32 then 55 else if w >>> 21 &&& 31#32 = 16#32 then tbTab.getD (w &&& 63#32).toNat 0 else 0)) h := by
  have ht := fun q => dec_table (h := h) (q := q) (lt_and63 w)
  rw [w_0b]
  by_cases c0 : w >>> 21 &&& 31#32 = 0#32
  · simp (maxSteps:=9^7)(disch:=first|assumption|((try simp only[nX]);omega)|simp) [c0]
  by_cases c4 : w >>> 21 &&& 31#32 = 4#32
  · simp (maxSteps:=9^7)(disch:=first|assumption|((try simp only[nX]);omega)|simp) [c4]
  by_cases c6 : w >>> 21 &&& 31#32 = 16#32
  · simp (maxSteps:=9^7)(disch:=first|assumption|((try simp only[nX]);omega)|simp) [c6, GC_of ht]
  · simp (maxSteps:=9^7)(disch:=first|assumption|((try simp only[nX]);omega)|simp) [c0, c4, c6]
theorem dec_kind : WC T n_0d [u32 w] h q ↔ q (.int .i64 (dkind w)) h := by
  have h1 := fun q => dec_special (h := h) (q := q) (lt_and63 w)
  have h2 := fun q => dec_regimm (h := h) (q := q) (lt_and31 (w >>> 16))
  have h3 := fun q => dec_cop0 (h := h) (q := q) (w := w)
  have h4 := fun q => dec_special2 (h := h) (q := q) (lt_and63 w)
  have h5 := fun q => dec_major (h := h) (q := q) (lt_shr w 26 64 (by omega) (by omega))
  rw [w_0d]
  unfold dkind
  by_cases c0 : w >>> 26 = 0#32
  · simp (maxSteps:=9^7)(disch:=first|assumption|((try simp only[nX]);omega)|simp) [c0, GC_of h1]
  by_cases c1 : w >>> 26 = 1#32
  · simp (maxSteps:=9^7)(disch:=first|assumption|((try simp only[nX]);omega)|simp) [c1, GC_of h2]
  by_cases c2 : w >>> 26 = 16#32
  · simp (maxSteps:=9^7)(disch:=first|assumption|((try simp only[nX]);omega)|simp) [c2, GC_of h3]
  by_cases c3 : w >>> 26 = 28#32
  · simp (maxSteps:=9^7)(disch:=first|assumption|((try simp only[nX]);omega)|simp) [c3, GC_of h4]
  · simp (maxSteps:=9^7)(disch:=first|assumption|((try simp only[nX]);omega)|simp) [c0, c1, c2, c3, GC_of h5]
theorem dfld_cases {k : Int} (hk : 0 ≤ k ∧ k ≤ 77) : dfld k = 0 ∨ dfld k = 1 ∨ dfld k = 3 ∨ dfld k = 4 ∨ dfld k = 5 ∨ dfld k = 6 ∨ dfld k = 7 ∨ dfld k = 14 ∨ dfld k = 17 ∨ dfld k = 18 ∨ dfld k = 19 ∨ dfld k = 32 := by
  obtain ⟨n, rfl⟩ : ∃ n : Nat, k = n := ⟨k.toNat, by omega⟩
  have : ∀ n : Fin 78, dfld (n.val : Int) = 0 ∨ dfld (n.val : Int) = 1 ∨ dfld (n.val : Int) = 3 ∨ dfld (n.val : Int) = 4 ∨ dfld (n.val : Int) = 5 ∨ dfld (n.val : Int) = 6 ∨ dfld (n.val : Int) = 7 ∨ dfld (n.val : Int) = 14 ∨ dfld (n.val : Int) = 17 ∨ dfld (n.val : Int) = 18 ∨ dfld (n.val : Int) = 19 ∨ dfld (n.val : Int) = 32 := by decide
  exact this ⟨n, by omega⟩
theorem an_0_1 : binV .and (.int .i64 0) (.int .i64 1) = some (.int .i64 0) := by rw [and_i64]; rfl
theorem an_0_2 : binV .and (.int .i64 0) (.int .i64 2) = some (.int .i64 0) := by rw [and_i64]; rfl
theorem an_0_4 : binV .and (.int .i64 0) (.int .i64 4) = some (.int .i64 0) := by rw [and_i64]; rfl
theorem an_0_8 : binV .and (.int .i64 0) (.int .i64 8) = some (.int .i64 0) := by rw [and_i64]; rfl
theorem an_0_16 : binV .and (.int .i64 0) (.int .i64 16) = some (.int .i64 0) := by rw [and_i64]; rfl
theorem an_0_32 : binV .and (.int .i64 0) (.int .i64 32) = some (.int .i64 0) := by rw [and_i64]; rfl
theorem an_1_1 : binV .and (.int .i64 1) (.int .i64 1) = some (.int .i64 1) := by rw [and_i64]; rfl
theorem an_1_2 : binV .and (.int .i64 1) (.int .i64 2) = some (.int .i64 0) := by rw [and_i64]; rfl
theorem an_1_4 : binV .and (.int .i64 1) (.int .i64 4) = some (.int .i64 0) := by rw [and_i64]; rfl
theorem an_1_8 : binV .and (.int .i64 1) (.int .i64 8) = some (.int .i64 0) := by rw [and_i64]; rfl
theorem an_1_16 : binV .and (.int .i64 1) (.int .i64 16) = some (.int .i64 0) := by rw [and_i64]; rfl
theorem an_1_32 : binV .and (.int .i64 1) (.int .i64 32) = some (.int .i64 0) := by rw [and_i64]; rfl
theorem an_3_1 : binV .and (.int .i64 3) (.int .i64 1) = some (.int .i64 1) := by rw [and_i64]; rfl
theorem an_3_2 : binV .and (.int .i64 3) (.int .i64 2) = some (.int .i64 2) := by rw [and_i64]; rfl
theorem an_3_4 : binV .and (.int .i64 3) (.int .i64 4) = some (.int .i64 0) := by rw [and_i64]; rfl
theorem an_3_8 : binV .and (.int .i64 3) (.int .i64 8) = some (.int .i64 0) := by rw [and_i64]; rfl
theorem an_3_16 : binV .and (.int .i64 3) (.int .i64 16) = some (.int .i64 0) := by rw [and_i64]; rfl
theorem an_3_32 : binV .and (.int .i64 3) (.int .i64 32) = some (.int .i64 0) := by rw [and_i64]; rfl
theorem an_4_1 : binV .and (.int .i64 4) (.int .i64 1) = some (.int .i64 0) := by rw [and_i64]; rfl
theorem an_4_2 : binV .and (.int .i64 4) (.int .i64 2) = some (.int .i64 0) := by rw [and_i64]; rfl
theorem an_4_4 : binV .and (.int .i64 4) (.int .i64 4) = some (.int .i64 4) := by rw [and_i64]; rfl
theorem an_4_8 : binV .and (.int .i64 4) (.int .i64 8) = some (.int .i64 0) := by rw [and_i64]; rfl
theorem an_4_16 : binV .and (.int .i64 4) (.int .i64 16) = some (.int .i64 0) := by rw [and_i64]; rfl
theorem an_4_32 : binV .and (.int .i64 4) (.int .i64 32) = some (.int .i64 0) := by rw [and_i64]; rfl
theorem an_5_1 : binV .and (.int .i64 5) (.int .i64 1) = some (.int .i64 1) := by rw [and_i64]; rfl
theorem an_5_2 : binV .and (.int .i64 5) (.int .i64 2) = some (.int .i64 0) := by rw [and_i64]; rfl
theorem an_5_4 : binV .and (.int .i64 5) (.int .i64 4) = some (.int .i64 4) := by rw [and_i64]; rfl
theorem an_5_8 : binV .and (.int .i64 5) (.int .i64 8) = some (.int .i64 0) := by rw [and_i64]; rfl
theorem an_5_16 : binV .and (.int .i64 5) (.int .i64 16) = some (.int .i64 0) := by rw [and_i64]; rfl
theorem an_5_32 : binV .and (.int .i64 5) (.int .i64 32) = some (.int .i64 0) := by rw [and_i64]; rfl
theorem an_6_1 : binV .and (.int .i64 6) (.int .i64 1) = some (.int .i64 0) := by rw [and_i64]; rfl
theorem an_6_2 : binV .and (.int .i64 6) (.int .i64 2) = some (.int .i64 2) := by rw [and_i64]; rfl
theorem an_6_4 : binV .and (.int .i64 6) (.int .i64 4) = some (.int .i64 4) := by rw [and_i64]; rfl
theorem an_6_8 : binV .and (.int .i64 6) (.int .i64 8) = some (.int .i64 0) := by rw [and_i64]; rfl
theorem an_6_16 : binV .and (.int .i64 6) (.int .i64 16) = some (.int .i64 0) := by rw [and_i64]; rfl
theorem an_6_32 : binV .and (.int .i64 6) (.int .i64 32) = some (.int .i64 0) := by rw [and_i64]; rfl
theorem an_7_1 : binV .and (.int .i64 7) (.int .i64 1) = some (.int .i64 1) := by rw [and_i64]; rfl
theorem an_7_2 : binV .and (.int .i64 7) (.int .i64 2) = some (.int .i64 2) := by rw [and_i64]; rfl
theorem an_7_4 : binV .and (.int .i64 7) (.int .i64 4) = some (.int .i64 4) := by rw [and_i64]; rfl
theorem an_7_8 : binV .and (.int .i64 7) (.int .i64 8) = some (.int .i64 0) := by rw [and_i64]; rfl
theorem an_7_16 : binV .and (.int .i64 7) (.int .i64 16) = some (.int .i64 0) := by rw [and_i64]; rfl
theorem an_7_32 : binV .and (.int .i64 7) (.int .i64 32) = some (.int .i64 0) := by rw [and_i64]; rfl
theorem an_14_1 : binV .and (.int .i64 14) (.int .i64 1) = some (.int .i64 0) := by rw [and_i64]; rfl
theorem an_14_2 : binV .and (.int .i64 14) (.int .i64 2) = some (.int .i64 2) := by rw [and_i64]; rfl
theorem an_14_4 : binV .and (.int .i64 14) (.int .i64 4) = some (.int .i64 4) := by rw [and_i64]; rfl
theorem an_14_8 : binV .and (.int .i64 14) (.int .i64 8) = some (.int .i64 8) := by rw [and_i64]; rfl
theorem an_14_16 : binV .and (.int .i64 14) (.int .i64 16) = some (.int .i64 0) := by rw [and_i64]; rfl
theorem an_14_32 : binV .and (.int .i64 14) (.int .i64 32) = some (.int .i64 0) := by rw [and_i64]; rfl
theorem an_17_1 : binV .and (.int .i64 17) (.int .i64 1) = some (.int .i64 1) := by rw [and_i64]; rfl
theorem an_17_2 : binV .and (.int .i64 17) (.int .i64 2) = some (.int .i64 0) := by rw [and_i64]; rfl
theorem an_17_4 : binV .and (.int .i64 17) (.int .i64 4) = some (.int .i64 0) := by rw [and_i64]; rfl
theorem an_17_8 : binV .and (.int .i64 17) (.int .i64 8) = some (.int .i64 0) := by rw [and_i64]; rfl
theorem an_17_16 : binV .and (.int .i64 17) (.int .i64 16) = some (.int .i64 16) := by rw [and_i64]; rfl
theorem an_17_32 : binV .and (.int .i64 17) (.int .i64 32) = some (.int .i64 0) := by rw [and_i64]; rfl
theorem an_18_1 : binV .and (.int .i64 18) (.int .i64 1) = some (.int .i64 0) := by rw [and_i64]; rfl
theorem an_18_2 : binV .and (.int .i64 18) (.int .i64 2) = some (.int .i64 2) := by rw [and_i64]; rfl
theorem an_18_4 : binV .and (.int .i64 18) (.int .i64 4) = some (.int .i64 0) := by rw [and_i64]; rfl
theorem an_18_8 : binV .and (.int .i64 18) (.int .i64 8) = some (.int .i64 0) := by rw [and_i64]; rfl
theorem an_18_16 : binV .and (.int .i64 18) (.int .i64 16) = some (.int .i64 16) := by rw [and_i64]; rfl
theorem an_18_32 : binV .and (.int .i64 18) (.int .i64 32) = some (.int .i64 0) := by rw [and_i64]; rfl
theorem an_19_1 : binV .and (.int .i64 19) (.int .i64 1) = some (.int .i64 1) := by rw [and_i64]; rfl
theorem an_19_2 : binV .and (.int .i64 19) (.int .i64 2) = some (.int .i64 2) := by rw [and_i64]; rfl
theorem an_19_4 : binV .and (.int .i64 19) (.int .i64 4) = some (.int .i64 0) := by rw [and_i64]; rfl
theorem an_19_8 : binV .and (.int .i64 19) (.int .i64 8) = some (.int .i64 0) := by rw [and_i64]; rfl
theorem an_19_16 : binV .and (.int .i64 19) (.int .i64 16) = some (.int .i64 16) := by rw [and_i64]; rfl
theorem an_19_32 : binV .and (.int .i64 19) (.int .i64 32) = some (.int .i64 0) := by rw [and_i64]; rfl
theorem an_32_1 : binV .and (.int .i64 32) (.int .i64 1) = some (.int .i64 0) := by rw [and_i64]; rfl
theorem an_32_2 : binV .and (.int .i64 32) (.int .i64 2) = some (.int .i64 0) := by rw [and_i64]; rfl
theorem an_32_4 : binV .and (.int .i64 32) (.int .i64 4) = some (.int .i64 0) := by rw [and_i64]; rfl
theorem an_32_8 : binV .and (.int .i64 32) (.int .i64 8) = some (.int .i64 0) := by rw [and_i64]; rfl
theorem an_32_16 : binV .and (.int .i64 32) (.int .i64 16) = some (.int .i64 0) := by rw [and_i64]; rfl
theorem an_32_32 : binV .and (.int .i64 32) (.int .i64 32) = some (.int .i64 32) := by rw [and_i64]; rfl
theorem dec_with (hk : 0 ≤ k ∧ k ≤ 77) : WC T n_0k [.int .i64 k, u32 w] h fun v h' => v = .agg (encIns.enc (dwith k w)).toArray ∧ Kp h h' := by
  have hf := fun h q => dec_fields (h := h) (q := q) hk
  rw [w_0k]
  rcases dfld_cases hk with e | e | e | e | e | e | e | e | e | e | e | e
  · have hd : dwith k w = ⟨k, 0, 0, 0, 0, 0#32⟩ := by unfold dwith; rw [e]; simp (config := {decide := true}) only [if_true, if_false, Bool.false_eq_true]
    rw [e] at hf
    simp (maxSteps:=9^7)(disch:=first|assumption|((try simp only[nX]);omega)|simp) [GC_of (hf _), an_0_1, an_0_2, an_0_4, an_0_8, an_0_16, an_0_32, hd, encIns]
  · have hd : dwith k w = ⟨k, ((w >>> 21 &&& 31#32).toNat : Int), 0, 0, 0, 0#32⟩ := by unfold dwith; rw [e]; simp (config := {decide := true}) only [if_true, if_false, Bool.false_eq_true]
    rw [e] at hf
    simp (maxSteps:=9^7)(disch:=first|assumption|((try simp only[nX]);omega)|simp) [GC_of (hf _), an_1_1, an_1_2, an_1_4, an_1_8, an_1_16, an_1_32, hd, encIns]
  · have hd : dwith k w = ⟨k, ((w >>> 21 &&& 31#32).toNat : Int), ((w >>> 16 &&& 31#32).toNat : Int), 0, 0, 0#32⟩ := by unfold dwith; rw [e]; simp (config := {decide := true}) only [if_true, if_false, Bool.false_eq_true]
    rw [e] at hf
    simp (maxSteps:=9^7)(disch:=first|assumption|((try simp only[nX]);omega)|simp) [GC_of (hf _), an_3_1, an_3_2, an_3_4, an_3_8, an_3_16, an_3_32, hd, encIns]
  · have hd : dwith k w = ⟨k, 0, 0, ((w >>> 11 &&& 31#32).toNat : Int), 0, 0#32⟩ := by unfold dwith; rw [e]; simp (config := {decide := true}) only [if_true, if_false, Bool.false_eq_true]
    rw [e] at hf
    simp (maxSteps:=9^7)(disch:=first|assumption|((try simp only[nX]);omega)|simp) [GC_of (hf _), an_4_1, an_4_2, an_4_4, an_4_8, an_4_16, an_4_32, hd, encIns]
  · have hd : dwith k w = ⟨k, ((w >>> 21 &&& 31#32).toNat : Int), 0, ((w >>> 11 &&& 31#32).toNat : Int), 0, 0#32⟩ := by unfold dwith; rw [e]; simp (config := {decide := true}) only [if_true, if_false, Bool.false_eq_true]
    rw [e] at hf
    simp (maxSteps:=9^7)(disch:=first|assumption|((try simp only[nX]);omega)|simp) [GC_of (hf _), an_5_1, an_5_2, an_5_4, an_5_8, an_5_16, an_5_32, hd, encIns]
  · have hd : dwith k w = ⟨k, 0, ((w >>> 16 &&& 31#32).toNat : Int), ((w >>> 11 &&& 31#32).toNat : Int), 0, 0#32⟩ := by unfold dwith; rw [e]; simp (config := {decide := true}) only [if_true, if_false, Bool.false_eq_true]
    rw [e] at hf
    simp (maxSteps:=9^7)(disch:=first|assumption|((try simp only[nX]);omega)|simp) [GC_of (hf _), an_6_1, an_6_2, an_6_4, an_6_8, an_6_16, an_6_32, hd, encIns]
  · have hd : dwith k w = ⟨k, ((w >>> 21 &&& 31#32).toNat : Int), ((w >>> 16 &&& 31#32).toNat : Int), ((w >>> 11 &&& 31#32).toNat : Int), 0, 0#32⟩ := by unfold dwith; rw [e]; simp (config := {decide := true}) only [if_true, if_false, Bool.false_eq_true]
    rw [e] at hf
    simp (maxSteps:=9^7)(disch:=first|assumption|((try simp only[nX]);omega)|simp) [GC_of (hf _), an_7_1, an_7_2, an_7_4, an_7_8, an_7_16, an_7_32, hd, encIns]
  · have hd : dwith k w = ⟨k, 0, ((w >>> 16 &&& 31#32).toNat : Int), ((w >>> 11 &&& 31#32).toNat : Int), ((w >>> 6 &&& 31#32).toNat : Int), 0#32⟩ := by unfold dwith; rw [e]; simp (config := {decide := true}) only [if_true, if_false, Bool.false_eq_true]
    rw [e] at hf
    simp (maxSteps:=9^7)(disch:=first|assumption|((try simp only[nX]);omega)|simp) [GC_of (hf _), an_14_1, an_14_2, an_14_4, an_14_8, an_14_16, an_14_32, hd, encIns]
  · have hd : dwith k w = ⟨k, ((w >>> 21 &&& 31#32).toNat : Int), 0, 0, 0, w &&& 65535#32⟩ := by unfold dwith; rw [e]; simp (config := {decide := true}) only [if_true, if_false, Bool.false_eq_true]
    rw [e] at hf
    simp (maxSteps:=9^7)(disch:=first|assumption|((try simp only[nX]);omega)|simp) [GC_of (hf _), an_17_1, an_17_2, an_17_4, an_17_8, an_17_16, an_17_32, hd, encIns]
  · have hd : dwith k w = ⟨k, 0, ((w >>> 16 &&& 31#32).toNat : Int), 0, 0, w &&& 65535#32⟩ := by unfold dwith; rw [e]; simp (config := {decide := true}) only [if_true, if_false, Bool.false_eq_true]
    rw [e] at hf
    simp (maxSteps:=9^7)(disch:=first|assumption|((try simp only[nX]);omega)|simp) [GC_of (hf _), an_18_1, an_18_2, an_18_4, an_18_8, an_18_16, an_18_32, hd, encIns]
  · have hd : dwith k w = ⟨k, ((w >>> 21 &&& 31#32).toNat : Int), ((w >>> 16 &&& 31#32).toNat : Int), 0, 0, w &&& 65535#32⟩ := by unfold dwith; rw [e]; simp (config := {decide := true}) only [if_true, if_false, Bool.false_eq_true]
    rw [e] at hf
    simp (maxSteps:=9^7)(disch:=first|assumption|((try simp only[nX]);omega)|simp) [GC_of (hf _), an_19_1, an_19_2, an_19_4, an_19_8, an_19_16, an_19_32, hd, encIns]
  · have hd : dwith k w = ⟨k, 0, 0, 0, 0, w &&& 67108863#32⟩ := by unfold dwith; rw [e]; simp (config := {decide := true}) only [if_true, if_false, Bool.false_eq_true]
    rw [e] at hf
    simp (maxSteps:=9^7)(disch:=first|assumption|((try simp only[nX]);omega)|simp) [GC_of (hf _), an_32_1, an_32_2, an_32_4, an_32_8, an_32_16, an_32_32, hd, encIns]
theorem dec_of : WC T n_09 [u32 w] h fun v h' => v = .agg (encIns.enc (dOf w)).toArray ∧ Kp h h' := by
  have h1 := fun h q => dec_kind (h := h) (q := q) (w := w)
  rw [w_09]
  simp (maxSteps:=9^7)(disch:=first|assumption|((try simp only[nX]);omega)|simp) [GC_of (h1 _)]
  refine GC_intro (dec_with (w := w) (dkind_bd w)) fun v h2 ⟨hv, K⟩ => ?_
  subst hv
  have g2 := K.get h.next (by simp)
  rw [get_push_self] at g2
  have n2 := K.le
  have K0 : Kp h h2 := ((Kp.refl h).push _).trans K
  simp only [push_next] at n2
  have hl : h.next < h2.next := by omega
  simp (maxSteps:=9^7)(disch:=first|assumption|((try simp only[nX]);omega)|simp) [encIns, dOf, g2, hl]
end
end Go.Proofs.YtmgoleiafiffoaaGreat.Cd

/- The document's table of instructions: a word as an instruction. -/
set_option maxRecDepth 1000000
set_option maxHeartbeats 8000000
set_option linter.unusedSimpArgs false
set_option linter.unusedVariables false
namespace Go.Proofs.YtmgoleiafiffoaaGreat.Cd
open Go Go.Dx
section
variable {h : Hp} {q : Value → Hp → Prop} {w : BitVec 32}
/-- What a word is looked up by. -/
def rsub (w : BitVec 32) : Int :=
  if w >>> 26 = 0#32 ∨ w >>> 26 = 28#32 then ((w &&& 63#32).toNat : Int)
  else if w >>> 26 = 1#32 then ((w >>> 16 &&& 31#32).toNat : Int)
  else if w >>> 26 = 16#32 then (if w >>> 21 &&& 31#32 = 16#32 then 64 + ((w &&& 63#32).toNat : Int) else ((w >>> 21 &&& 31#32).toNat : Int))
  else 0
theorem r3_sub : WC T n_3e [u32 w] h q ↔ q (.int .i64 (rsub w)) h := by
  rw [w_3e]
  unfold rsub
  by_cases c0 : w >>> 26 = 0#32
  · simp (maxSteps:=9^7)(disch:=first|assumption|((try simp only[nX]);omega)|simp) [c0]
  by_cases c1 : w >>> 26 = 28#32
  · simp (maxSteps:=9^7)(disch:=first|assumption|((try simp only[nX]);omega)|simp) [c0, c1]
  by_cases c2 : w >>> 26 = 1#32
  · simp (maxSteps:=9^7)(disch:=first|assumption|((try simp only[nX]);omega)|simp) [c0, c1, c2]
  by_cases c3 : w >>> 26 = 16#32
  · have e1 : (((w >>> 21 &&& 31#32).toNat : Int) = 16) ↔ w >>> 21 &&& 31#32 = 16#32 := by
      rw [← BitVec.toNat_inj]
      have : (16#32).toNat = 16 := rfl
      rw [this]; omega
    by_cases c4 : w >>> 21 &&& 31#32 = 16#32
    · have hw : IntKind.i64.wrap (64 + ((w.toNat &&& 63 : Nat) : Int)) = 64 + ((w.toNat &&& 63 : Nat) : Int) := by
        have : w.toNat &&& 63 ≤ 63 := Nat.and_le_right
        exact wrap_i64 (by omega) (by omega)
      simp (maxSteps:=9^7)(disch:=first|assumption|((try simp only[nX]);omega)|simp) [c0, c1, c2, c3, c4, hw]
    · have c5 : ¬ (((w.toNat >>> 21 &&& 31 : Nat) : Int) = 16) := fun hh => c4 (e1.mp (by simpa using hh))
      simp (maxSteps:=9^7)(disch:=first|assumption|((try simp only[nX]);omega)|simp) [c0, c1, c2, c3, c4, c5]
  · simp (maxSteps:=9^7)(disch:=first|assumption|((try simp only[nX]);omega)|simp) [c0, c1, c2, c3]
def rowsOf (op : Nat) : List Rw := if op = 0 then spRows else if op = 1 ∨ op = 16 ∨ op = 28 then otRows else plRows
theorem r3_rows {op : Nat} : WC T n_3b [.int .i64 (op : Int)] h fun v h' => v = .slice (some ⟨h.next, 0, none⟩) (rowsOf op).length (rowsOf op).length ∧ h' = h.push (.cells false (encRw.all (rowsOf op))) := by
  rw [w_3b]
  unfold rowsOf
  by_cases c0 : op = 0
  · have c0' : (op : Int) = 0 := by omega
    simp (maxSteps:=9^7)(disch:=first|assumption|((try simp only[nX]);omega)|simp) [c0, c0']
    refine GC_intro r_special fun v h1 ⟨hv, hh⟩ => ?_
    subst hv hh
    simp (maxSteps:=9^7)(disch:=first|assumption|((try simp only[nX]);omega)|simp)
    rfl
  have c0' : ¬ (op : Int) = 0 := by omega
  have n0 : ¬ op = 0 := c0
  by_cases c1 : op = 1 ∨ op = 16 ∨ op = 28
  · rw [if_neg c0, if_pos c1]
    have fin : ∀ (e : Env), GC T (fin [RV.t 2] (some []) h.next fun v h' => v = .slice (some ⟨h.next, 0, none⟩) otRows.length otRows.length ∧ h' = h.push (.cells false (encRw.all otRows))) n_39 [] (some 16) [{ d := some 2, g := none, o := Op.mov (X.t 16) }] [Fr.seq C.ret, Fr.seq ((C.ops [{ d := some 17, g := none, o := Dx.Op.call n_3a [] }, { d := some 2, g := none, o := Op.mov (X.t 17) }]).seq C.ret)] e h := fun e => by
      refine GC_intro r_others fun v h1 ⟨hv, hh⟩ => ?_
      subst hv hh
      simp (maxSteps:=9^7)(disch:=first|assumption|((try simp only[nX]);omega)|simp)
      rfl
    rcases c1 with rfl | rfl | rfl
    · simp (maxSteps:=9^7)(disch:=first|assumption|((try simp only[nX]);omega)|simp) []
      exact fin _
    · simp (maxSteps:=9^7)(disch:=first|assumption|((try simp only[nX]);omega)|simp) []
      exact fin _
    · simp (maxSteps:=9^7)(disch:=first|assumption|((try simp only[nX]);omega)|simp) []
      exact fin _
  · rw [if_neg c0, if_neg c1]
    have d1 : ¬ (op : Int) = 1 := by omega
    have d2 : ¬ (op : Int) = 16 := by omega
    have d3 : ¬ (op : Int) = 28 := by omega
    have d4 : ¬ op = 1 := by omega
    simp (maxSteps:=9^7)(disch:=first|assumption|((try simp only[nX]);omega)|simp) [n0, d4, c0', d1, d2, d3]
    refine GC_intro r_plain fun v h1 ⟨hv, hh⟩ => ?_
    subst hv hh
    simp (maxSteps:=9^7)(disch:=first|assumption|((try simp only[nX]);omega)|simp)
    rfl
/-- Is a byte among them? -/
def hasB (f : ByteArray) (c : Nat) : Bool := f.data.toList.any fun b => b.toNat == c
theorem r_hasx {f : ByteArray} {c : BitVec 8} (hf : f.size < 2 ^ 40) : WC T n_38 [.string f, u8 c] h fun v h' => v = .bool (hasB f c.toNat) ∧ h' = h := by
  rw [w_38]
  simp (maxSteps:=9^7)(disch:=first|assumption|((try simp only[nX]);omega)|simp)
  refine G_loop (fun j e h' => ∃ k : Nat, j = f.size - k ∧ k ≤ f.size ∧ hasB f c.toNat = (f.data.toList.drop k).any (fun b => b.toNat == c.toNat) ∧ h' = h ∧ e 0 = .string f ∧ e 1 = u8 c ∧ e 5 = .int .i64 k) ?_ f.size _ _ ⟨0, rfl, by omega, rfl, rfl, by simp, by simp, by simp⟩
  rintro j ih e h' ⟨k, rfl, hk, hb, rfl, e0, e1, e5⟩
  by_cases c1 : k < f.size
  · have c1' : (k : Int) < f.size := by omega
    have hl : k < f.data.toList.length := by simpa using c1
    have hlt := (f.data.toList[k]).toNat_lt
    have hix : ixsV (.int .i64 (k : Int)) (.string f) = some (u8 (BitVec.ofNat 8 (f.data.toList[k]).toNat)) := by
      simp only [ixsV]
      rw [indexA_int (by omega) (by omega)]
      simp only [Option.bind_some, Int.toNat_natCast]
      rw [List.getElem?_eq_getElem hl]
      simp only [Option.map_some, u8, BitVec.toNat_ofNat]
      rw [Nat.mod_eq_of_lt (by omega)]
    rw [List.drop_eq_getElem_cons hl, List.any_cons] at hb
    have hbc : (BitVec.ofNat 8 (f.data.toList[k]).toNat = c) ↔ (f.data.toList[k]).toNat = c.toNat := by
      rw [← BitVec.toNat_inj, BitVec.toNat_ofNat, Nat.mod_eq_of_lt (by omega)]
    generalize f.data.toList[k] = b0 at *
    by_cases hcc : b0.toNat = c.toNat
    · have hcc' := hbc.mpr hcc
      have hb' : hasB f c.toNat = true := by rw [hb, hcc]; simp
      generalize BitVec.ofNat 8 b0.toNat = y at *
      simp (maxSteps:=9^7)(disch:=first|assumption|((try simp only[nX]);omega)|simp) [e0, e1, e5, c1', opV_len0, hix, hcc', hb']
    · have hcc' : ¬ BitVec.ofNat 8 b0.toNat = c := fun hh => hcc (hbc.mp hh)
      have hb' : hasB f c.toNat = (f.data.toList.drop (k + 1)).any (fun b => b.toNat == c.toNat) := by rw [hb]; simp [hcc]
      generalize BitVec.ofNat 8 b0.toNat = y at *
      simp (maxSteps:=9^7)(disch:=first|assumption|((try simp only[nX]);omega)|simp) [e0, e1, e5, c1', opV_len0, hix, hcc']
      exact ih (f.size - (k + 1)) (by omega) _ _ ⟨k + 1, rfl, by omega, hb', rfl, by simp [e0], by simp [e1], by simp⟩
  · have c1' : ¬ (k : Int) < f.size := by omega
    have hb' : hasB f c.toNat = false := by
      rw [hb, List.drop_eq_nil_of_le (by simp; omega)]
      rfl
    simp (maxSteps:=9^7)(disch:=first|assumption|((try simp only[nX]);omega)|simp) [e0, e1, e5, c1', opV_len0, hb']
end
end Go.Proofs.YtmgoleiafiffoaaGreat.Cd

/- The document's table of instructions: a word as an instruction, by its row. -/
set_option maxRecDepth 1000000
set_option maxHeartbeats 8000000
set_option linter.unusedSimpArgs false
set_option linter.unusedVariables false
namespace Go.Proofs.YtmgoleiafiffoaaGreat.Cd
open Go Go.Dx
section
variable {h : Hp} {q : Value → Hp → Prop} {w : BitVec 32} {Q : Ex → Env → Hp → Prop} {e : Env} {F : List Fr} {H : Hp} {rb ib p : Nat} {r : Rw} {i : Ins}
theorem of_s5 (hf : r.f.size < 2 ^ 40) (gr : H.get rb = some (.cells false (encRw.enc r))) (gi : H.get ib = some (.cells false (encIns.enc i))) (hne : rb ≠ ib) (e0 : e 0 = u32 w) (e2 : e 2 = ptr p 0) (e5 : e 5 = ptr rb 0) (e6 : e 6 = ptr ib 0)
    (hk : ∀ (e' : Env) (H' : Hp), e' 0 = u32 w → e' 2 = ptr p 0 → e' 5 = ptr rb 0 → e' 6 = ptr ib 0 → H'.get rb = some (.cells false (encRw.enc r)) → H'.get ib = some (.cells false (encIns.enc { i with s := if hasB r.f 115 = true then ((w >>> 21 &&& 31#32).toNat : Int) else i.s })) → Upd H H' [ib] [ib] → G T Q c4_34 F e' H') : G T Q c5_34 F e H := by
  have li := lt_of_get gi
  have hh := fun q => WC_iff (r_hasx (h := H) (c := 115#8) hf) q
  rw [show (115#8).toNat = 115 from rfl] at hh
  cases hb : hasB r.f 115 with
  | true =>
    rw [hb] at hh hk
    rw [if_pos rfl] at hk
    have gr' := gr
    have gi' := gi
    simp only [encRw, encIns] at gr' gi'
    simp (maxSteps:=9^7)(disch:=first|assumption|((try simp only[nX]);omega)|simp) [e0, e2, e5, e6, gr', gi', GC_of hh, -g4_34]
    exact hk _ _ (by simp [e0]) (by simp [e2]) (by simp [e5]) (by simp [e6]) ((get_put_ne hne).trans gr) (get_put_self li) (Kp.upd (.refl H) _).put1
  | false =>
    rw [hb] at hh hk
    rw [if_neg (by simp)] at hk
    have gr' := gr
    simp only [encRw] at gr'
    simp (maxSteps:=9^7)(disch:=first|assumption|((try simp only[nX]);omega)|simp) [e0, e2, e5, e6, gr', GC_of hh, -g4_34]
    exact hk _ _ (by simp [e0]) (by simp [e2]) (by simp [e5]) (by simp [e6]) gr gi .refl
theorem of_s4 (hf : r.f.size < 2 ^ 40) (gr : H.get rb = some (.cells false (encRw.enc r))) (gi : H.get ib = some (.cells false (encIns.enc i))) (hne : rb ≠ ib) (e0 : e 0 = u32 w) (e2 : e 2 = ptr p 0) (e5 : e 5 = ptr rb 0) (e6 : e 6 = ptr ib 0)
    (hk : ∀ (e' : Env) (H' : Hp), e' 0 = u32 w → e' 2 = ptr p 0 → e' 5 = ptr rb 0 → e' 6 = ptr ib 0 → H'.get rb = some (.cells false (encRw.enc r)) → H'.get ib = some (.cells false (encIns.enc { i with t := if hasB r.f 116 = true then ((w >>> 16 &&& 31#32).toNat : Int) else i.t })) → Upd H H' [ib] [ib] → G T Q c3_34 F e' H') : G T Q c4_34 F e H := by
  have li := lt_of_get gi
  have hh := fun q => WC_iff (r_hasx (h := H) (c := 116#8) hf) q
  rw [show (116#8).toNat = 116 from rfl] at hh
  cases hb : hasB r.f 116 with
  | true =>
    rw [hb] at hh hk
    rw [if_pos rfl] at hk
    have gr' := gr
    have gi' := gi
    simp only [encRw, encIns] at gr' gi'
    simp (maxSteps:=9^7)(disch:=first|assumption|((try simp only[nX]);omega)|simp) [e0, e2, e5, e6, gr', gi', GC_of hh, -g3_34]
    exact hk _ _ (by simp [e0]) (by simp [e2]) (by simp [e5]) (by simp [e6]) ((get_put_ne hne).trans gr) (get_put_self li) (Kp.upd (.refl H) _).put1
  | false =>
    rw [hb] at hh hk
    rw [if_neg (by simp)] at hk
    have gr' := gr
    simp only [encRw] at gr'
    simp (maxSteps:=9^7)(disch:=first|assumption|((try simp only[nX]);omega)|simp) [e0, e2, e5, e6, gr', GC_of hh, -g3_34]
    exact hk _ _ (by simp [e0]) (by simp [e2]) (by simp [e5]) (by simp [e6]) gr gi .refl
theorem of_s3 (hf : r.f.size < 2 ^ 40) (gr : H.get rb = some (.cells false (encRw.enc r))) (gi : H.get ib = some (.cells false (encIns.enc i))) (hne : rb ≠ ib) (e0 : e 0 = u32 w) (e2 : e 2 = ptr p 0) (e5 : e 5 = ptr rb 0) (e6 : e 6 = ptr ib 0)
    (hk : ∀ (e' : Env) (H' : Hp), e' 0 = u32 w → e' 2 = ptr p 0 → e' 5 = ptr rb 0 → e' 6 = ptr ib 0 → H'.get rb = some (.cells false (encRw.enc r)) → H'.get ib = some (.cells false (encIns.enc { i with d := if hasB r.f 100 = true then ((w >>> 11 &&& 31#32).toNat : Int) else i.d })) → Upd H H' [ib] [ib] → G T Q c2_34 F e' H') : G T Q c3_34 F e H := by
  have li := lt_of_get gi
  have hh := fun q => WC_iff (r_hasx (h := H) (c := 100#8) hf) q
  rw [show (100#8).toNat = 100 from rfl] at hh
  cases hb : hasB r.f 100 with
  | true =>
    rw [hb] at hh hk
    rw [if_pos rfl] at hk
    have gr' := gr
    have gi' := gi
    simp only [encRw, encIns] at gr' gi'
    simp (maxSteps:=9^7)(disch:=first|assumption|((try simp only[nX]);omega)|simp) [e0, e2, e5, e6, gr', gi', GC_of hh, -g2_34]
    exact hk _ _ (by simp [e0]) (by simp [e2]) (by simp [e5]) (by simp [e6]) ((get_put_ne hne).trans gr) (get_put_self li) (Kp.upd (.refl H) _).put1
  | false =>
    rw [hb] at hh hk
    rw [if_neg (by simp)] at hk
    have gr' := gr
    simp only [encRw] at gr'
    simp (maxSteps:=9^7)(disch:=first|assumption|((try simp only[nX]);omega)|simp) [e0, e2, e5, e6, gr', GC_of hh, -g2_34]
    exact hk _ _ (by simp [e0]) (by simp [e2]) (by simp [e5]) (by simp [e6]) gr gi .refl
theorem of_s2 (hf : r.f.size < 2 ^ 40) (gr : H.get rb = some (.cells false (encRw.enc r))) (gi : H.get ib = some (.cells false (encIns.enc i))) (hne : rb ≠ ib) (e0 : e 0 = u32 w) (e2 : e 2 = ptr p 0) (e5 : e 5 = ptr rb 0) (e6 : e 6 = ptr ib 0)
    (hk : ∀ (e' : Env) (H' : Hp), e' 0 = u32 w → e' 2 = ptr p 0 → e' 5 = ptr rb 0 → e' 6 = ptr ib 0 → H'.get rb = some (.cells false (encRw.enc r)) → H'.get ib = some (.cells false (encIns.enc { i with sh := if hasB r.f 104 = true then ((w >>> 6 &&& 31#32).toNat : Int) else i.sh })) → Upd H H' [ib] [ib] → G T Q c1_34 F e' H') : G T Q c2_34 F e H := by
  have li := lt_of_get gi
  have hh := fun q => WC_iff (r_hasx (h := H) (c := 104#8) hf) q
  rw [show (104#8).toNat = 104 from rfl] at hh
  cases hb : hasB r.f 104 with
  | true =>
    rw [hb] at hh hk
    rw [if_pos rfl] at hk
    have gr' := gr
    have gi' := gi
    simp only [encRw, encIns] at gr' gi'
    simp (maxSteps:=9^7)(disch:=first|assumption|((try simp only[nX]);omega)|simp) [e0, e2, e5, e6, gr', gi', GC_of hh, -g1_34]
    exact hk _ _ (by simp [e0]) (by simp [e2]) (by simp [e5]) (by simp [e6]) ((get_put_ne hne).trans gr) (get_put_self li) (Kp.upd (.refl H) _).put1
  | false =>
    rw [hb] at hh hk
    rw [if_neg (by simp)] at hk
    have gr' := gr
    simp only [encRw] at gr'
    simp (maxSteps:=9^7)(disch:=first|assumption|((try simp only[nX]);omega)|simp) [e0, e2, e5, e6, gr', GC_of hh, -g1_34]
    exact hk _ _ (by simp [e0]) (by simp [e2]) (by simp [e5]) (by simp [e6]) gr gi .refl
theorem of_s1 (hf : r.f.size < 2 ^ 40) (gr : H.get rb = some (.cells false (encRw.enc r))) (gi : H.get ib = some (.cells false (encIns.enc i))) (hne : rb ≠ ib) (e0 : e 0 = u32 w) (e2 : e 2 = ptr p 0) (e5 : e 5 = ptr rb 0) (e6 : e 6 = ptr ib 0)
    (hk : ∀ (e' : Env) (H' : Hp), e' 0 = u32 w → e' 2 = ptr p 0 → e' 5 = ptr rb 0 → e' 6 = ptr ib 0 → H'.get rb = some (.cells false (encRw.enc r)) → H'.get ib = some (.cells false (encIns.enc { i with imm := if hasB r.f 105 = true then w &&& 65535#32 else i.imm })) → Upd H H' [ib] [ib] → G T Q c0_34 F e' H') : G T Q c1_34 F e H := by
  have li := lt_of_get gi
  have hh := fun q => WC_iff (r_hasx (h := H) (c := 105#8) hf) q
  rw [show (105#8).toNat = 105 from rfl] at hh
  cases hb : hasB r.f 105 with
  | true =>
    rw [hb] at hh hk
    rw [if_pos rfl] at hk
    have gr' := gr
    have gi' := gi
    simp only [encRw, encIns] at gr' gi'
    simp (maxSteps:=9^7)(disch:=first|assumption|((try simp only[nX]);omega)|simp) [e0, e2, e5, e6, gr', gi', GC_of hh, -g0_34]
    exact hk _ _ (by simp [e0]) (by simp [e2]) (by simp [e5]) (by simp [e6]) ((get_put_ne hne).trans gr) (get_put_self li) (Kp.upd (.refl H) _).put1
  | false =>
    rw [hb] at hh hk
    rw [if_neg (by simp)] at hk
    have gr' := gr
    simp only [encRw] at gr'
    simp (maxSteps:=9^7)(disch:=first|assumption|((try simp only[nX]);omega)|simp) [e0, e2, e5, e6, gr', GC_of hh, -g0_34]
    exact hk _ _ (by simp [e0]) (by simp [e2]) (by simp [e5]) (by simp [e6]) gr gi .refl
/-- An instruction, by its row. -/
def rIns (r : Rw) (w : BitVec 32) : Ins :=
  ⟨r.k, if hasB r.f 115 = true then ((w >>> 21 &&& 31#32).toNat : Int) else 0, if hasB r.f 116 = true then ((w >>> 16 &&& 31#32).toNat : Int) else 0, if hasB r.f 100 = true then ((w >>> 11 &&& 31#32).toNat : Int) else 0,
    if hasB r.f 104 = true then ((w >>> 6 &&& 31#32).toNat : Int) else 0, if hasB r.f 106 = true then w &&& 67108863#32 else if hasB r.f 105 = true then w &&& 65535#32 else 0#32⟩
def rmt (op : Nat) (u : Int) (r : Rw) : Bool := decide (r.op = (op : Int) ∧ r.sub = u)
def rRes (o : Option Rw) (w : BitVec 32) : Ins := match o with
  | some r => rIns r w
  | none => ⟨0, 0, 0, 0, 0, 0#32⟩
def rOf (w : BitVec 32) : Ins := rRes ((rowsOf (w >>> 26).toNat).find? (rmt (w >>> 26).toNat (rsub w))) w
theorem of_s0 (hf : r.f.size < 2 ^ 40) (gr : H.get rb = some (.cells false (encRw.enc r))) (gi : H.get ib = some (.cells false (encIns.enc i))) (hne : rb ≠ ib) {z : List Value} (gp : H.get p = some (.cells false z)) (hz : z.length = 6) (hpi : p ≠ ib) (e0 : e 0 = u32 w) (e2 : e 2 = ptr p 0) (e5 : e 5 = ptr rb 0) (e6 : e 6 = ptr ib 0)
    (hk : ∀ (e' : Env) (H' : Hp), e' 2 = ptr p 0 → H'.get p = some (.cells false (encIns.enc { i with imm := if hasB r.f 106 = true then w &&& 67108863#32 else i.imm })) → Upd H H' [ib, p] [ib, p] → GR T Q F .r e' H') : G T Q c0_34 F e H := by
  have li := lt_of_get gi
  have lp := lt_of_get gp
  have hd : z.drop 6 = [] := List.drop_eq_nil_of_le (by omega)
  have hh := fun q => WC_iff (r_hasx (h := H) (c := 106#8) hf) q
  rw [show (106#8).toNat = 106 from rfl] at hh
  cases hb : hasB r.f 106 with
  | true =>
    rw [hb] at hh hk
    rw [if_pos rfl] at hk
    have gr' := gr
    have gi' := gi
    simp only [encRw, encIns] at gr' gi'
    simp (maxSteps:=9^7)(disch:=first|assumption|((try simp only[nX]);omega)|simp) [e0, e2, e5, e6, gr', gi', gp, hz, hd, hpi, li, GC_of hh]
    exact hk _ _ (by simp [e2]) (get_put_self (by simpa using lp)) ⟨by simp, fun b _ hn => by simp only [List.mem_cons, List.not_mem_nil, or_false, not_or] at hn; rw [get_put_ne hn.2, get_put_ne hn.1], fun b hb => .inl hb⟩
  | false =>
    rw [hb] at hh hk
    rw [if_neg (by simp)] at hk
    have gr' := gr
    simp only [encRw] at gr'
    have ri := rdn_all (n := 6) gi rfl
    simp only [encIns] at ri
    simp (maxSteps:=9^7)(disch:=first|assumption|((try simp only[nX]);omega)|simp) [e0, e2, e5, e6, gr', ri, gp, hz, hd, GC_of hh]
    exact hk _ _ (by simp [e2]) (get_put_self lp) ⟨by simp, fun b _ hn => by simp only [List.mem_cons, List.not_mem_nil, or_false, not_or] at hn; rw [get_put_ne hn.2], fun b hb => .inl hb⟩
theorem rows_all (op : Nat) : ∀ r ∈ rowsOf op, r.f.size < 2 ^ 40 := by
  obtain ⟨f1, f2, f3⟩ := rows_f
  unfold rowsOf
  split
  · exact f1
  · split
    · exact f3
    · exact f2
theorem r3_of : WC T n_34 [u32 w] h fun v h' => v = .agg (encIns.enc (rOf w)).toArray ∧ Kp h h' := by
  unfold rOf
  obtain ⟨op, hopd⟩ : ∃ op, op = (w >>> 26).toNat := ⟨_, rfl⟩
  have hop : (w.toNat : Int) >>> 26 = (op : Int) := by rw [hopd]; simp
  rw [← hopd]
  clear hopd
  have hrl : (rowsOf op).length < 2 ^ 30 := by
    unfold rowsOf
    split
    · decide
    · split <;> decide
  have hra := rows_all op
  have hrr := fun h => r3_rows (h := h) (op := op)
  rw [w_34]
  simp (maxSteps:=9^7)(disch:=first|assumption|((try simp only[nX]);omega)|simp) [hop]
  refine GC_intro (hrr _) fun v h1 ⟨hv, hh⟩ => ?_
  subst hv hh
  clear hrr
  generalize rowsOf op = rs at *
  simp (maxSteps:=9^7)(disch:=first|assumption|((try simp only[nX]);omega)|simp) []
  refine G_loop (fun j e H => ∃ us vs : List Rw, j = vs.length ∧ rs = us ++ vs ∧ rs.find? (rmt op (rsub w)) = vs.find? (rmt op (rsub w)) ∧ Kp h H ∧ H.get h.next = some (.cells false [.int .i64 0, .int .i64 0, .int .i64 0, .int .i64 0, .int .i64 0, u32 0#32]) ∧ H.get (h.next + 1) = some (.cells false (encRw.all rs)) ∧ e 0 = u32 w ∧ e 2 = ptr h.next 0 ∧ e 3 = .slice (some ⟨h.next + 1, 0, none⟩) rs.length rs.length ∧ e 4 = .int .i64 us.length) ?_ rs.length _ _
    ⟨[], rs, rfl, rfl, rfl, ((Kp.refl h).push _).push _, (get_push_ne (by rw [push_next]; omega)).trans get_push_self, get_push_self, by simp, by simp, by simp, by simp⟩
  rintro j ih e H ⟨us, vs, rfl, hx, hf, K, g2, gr, e0, e2, e3, e4⟩
  have l2 := lt_of_get g2
  have lr := lt_of_get gr
  cases vs with
  | nil =>
    have hl : (us.length : Int) = rs.length := by rw [hx]; simp
    rw [hf]
    simp (maxSteps:=9^7)(disch:=first|assumption|((try simp only[nX]);omega)|simp) [e3, e4, hl, e2, g2, l2, rRes, encIns]
  | cons r vs =>
    have hlt : us.length < rs.length := by rw [hx]; simp
    have hlt' : (us.length : Int) < rs.length := by omega
    have hri : rs[us.length]'hlt = r := by simp [hx]
    have h4 : H.rdn (h.next + 1) (us.length * 4) 4 = some (encRw.enc r) := by
      have := all_rdn encRw gr us.length hlt
      rw [hri] at this
      exact this
    have hfr := hra r (by rw [hx]; simp)
    have hsub := fun h q => r3_sub (h := h) (q := q) (w := w)
    have next : ∀ e' : Env, rmt op (rsub w) r = false → e' 0 = u32 w → e' 2 = ptr h.next 0 → e' 3 = .slice (some ⟨h.next + 1, 0, none⟩) rs.length rs.length → e' 4 = .int .i64 ((us.length : Int) + 1) → G T (fin [RV.ldn 6 2] (some []) h.next fun v h' => v = .agg (encIns.enc (rRes (rs.find? (rmt op (rsub w))) w)).toArray ∧ Kp h h') (.loop c9_34) [Fr.block 0, Fr.seq ((C.ops [{ d := some 82, g := none, o := Dx.Op.build [Value.int IntKind.i64 0, Value.int IntKind.i64 0, Value.int IntKind.i64 0, Value.int IntKind.i64 0, Value.int IntKind.i64 0, u32 0#32] [] }, { d := none, g := none, o := Op.stn 6 (X.t 2) (X.t 82) }]).seq C.ret)] e' (H.push (.cells false (encRw.enc r))) := fun e' hm f0 f2 f3 f4 =>
      ih vs.length (by simp) _ _ ⟨us ++ [r], vs, rfl, by simp [hx], by rw [hf, List.find?_cons, hm], K.push _, (get_push_ne (by omega)).trans g2, (get_push_ne (by omega)).trans gr, f0, f2, f3, by rw [f4]; simp⟩
    simp only [encRw] at h4 next
    by_cases c1 : r.op = (op : Int)
    case neg =>
      have hm : rmt op (rsub w) r = false := by simp [rmt, c1]
      simp (maxSteps:=9^7)(disch:=first|assumption|((try simp only[nX]);omega)|simp) [e0, e3, e4, hlt, hlt', h4, hop, c1]
      exact next _ hm (by simp [e0]) (by simp [e2]) (by simp [e3]) (by simp)
    by_cases c2 : r.sub = rsub w
    case neg =>
      have hm : rmt op (rsub w) r = false := by simp [rmt, c2]
      simp (maxSteps:=9^7)(disch:=first|assumption|((try simp only[nX]);omega)|simp) [e0, e3, e4, hlt, hlt', h4, hop, eq_true c1, c2, GC_of (hsub _), GCI_of (hsub _)]
      exact next _ hm (by simp [e0]) (by simp [e2]) (by simp [e3]) (by simp)
    have hm : rmt op (rsub w) r = true := by simp [rmt, c1, c2]
    rw [hf, List.find?_cons, hm]
    simp (maxSteps:=9^7)(disch:=first|assumption|((try simp only[nX]);omega)|simp) [e0, e3, e4, hlt, hlt', h4, hop, eq_true c1, eq_true c2, GC_of (hsub _), GCI_of (hsub _), -g5_34]
    have lH := K.le
    generalize hP : Hp.push (Hp.push H _) _ = P
    have nP : P.next = H.next + 2 := by rw [← hP]; rfl
    have gR : P.get H.next = some (.cells false (encRw.enc r)) := by rw [← hP]; exact (get_push_ne (by rw [push_next]; omega)).trans get_push_self
    have gI : P.get (H.next + 1) = some (.cells false (encIns.enc ⟨r.k, 0, 0, 0, 0, 0#32⟩)) := by rw [← hP]; exact get_push_self
    have gP : P.get h.next = some (.cells false [.int .i64 0, .int .i64 0, .int .i64 0, .int .i64 0, .int .i64 0, u32 0#32]) := by rw [← hP]; exact (get_push_ne (by rw [push_next]; omega)).trans ((get_push_ne (by omega)).trans g2)
    have KP : Kp h P := by rw [← hP]; exact (K.push _).push _
    clear hP
    refine of_s5 (w := w) (rb := H.next) (ib := H.next + 1) (p := h.next) hfr gR gI (by omega) (by simp [e0]) (by simp [e2]) (by simp) (by simp) fun e5 H5 a0 a2 a5 a6 gR gI U5 => ?_
    refine of_s4 hfr gR gI (by omega) a0 a2 a5 a6 fun e4 H4 a0 a2 a5 a6 gR gI U4 => ?_
    refine of_s3 hfr gR gI (by omega) a0 a2 a5 a6 fun e3 H3 a0 a2 a5 a6 gR gI U3 => ?_
    refine of_s2 hfr gR gI (by omega) a0 a2 a5 a6 fun e2 H2 a0 a2 a5 a6 gR gI U2 => ?_
    refine of_s1 hfr gR gI (by omega) a0 a2 a5 a6 fun e1 H1 a0 a2 a5 a6 gR gI U1 => ?_
    have UU := (((U5.trans U4).trans U3).trans U2).trans U1
    have gP1 := (UU.get h.next (by omega) (by simp; omega)).trans gP
    refine of_s0 hfr gR gI (by omega) gP1 rfl (by omega) a0 a2 a5 a6 fun e0 H0 a2 gF U0 => ?_
    have r0 := rdn_all (n := 6) gF rfl
    have K1 : Kp h H0 := U0.kp' (UU.kp' KP (by simp; omega)) (by simp; omega)
    simp only [encIns] at r0
    simp (maxSteps:=9^7)(disch:=first|assumption|((try simp only[nX]);omega)|simp) [a2, r0, rRes, rIns, encIns]
    exact K1
end
end Go.Proofs.YtmgoleiafiffoaaGreat.Cd

/- Both tables of instructions say the same. -/
set_option maxRecDepth 1000000
set_option maxHeartbeats 8000000
set_option linter.unusedSimpArgs false
set_option linter.unusedVariables false
namespace Go.Proofs.YtmgoleiafiffoaaGreat.Cd
open Go Go.Dx
/-- A row's fields are its Kind's. -/
def rowOk (r : Rw) : Bool := decide (0 ≤ r.k ∧ r.k ≤ 77) && (hasB r.f 115 == (dfld r.k).testBit 0) && (hasB r.f 116 == (dfld r.k).testBit 1) && (hasB r.f 100 == (dfld r.k).testBit 2) && (hasB r.f 104 == (dfld r.k).testBit 3) && (hasB r.f 105 == (dfld r.k).testBit 4) && (hasB r.f 106 == (dfld r.k).testBit 5)
theorem rows_ok : (∀ r ∈ spRows, rowOk r = true) ∧ (∀ r ∈ plRows, rowOk r = true) ∧ (∀ r ∈ otRows, rowOk r = true) := by
  refine ⟨?_, ?_, ?_⟩ <;> decide +kernel
theorem rows_ok' (op : Nat) : ∀ r ∈ rowsOf op, rowOk r = true := by
  obtain ⟨f1, f2, f3⟩ := rows_ok
  unfold rowsOf
  split
  · exact f1
  · split
    · exact f3
    · exact f2
def kOf (o : Option Rw) : Int := match o with | some r => r.k | none => 0
theorem k_sp : ∀ u : Fin 64, kOf (spRows.find? (rmt 0 (u.val : Int))) = spTab.getD u.val 0 := by decide +kernel
theorem k_rg : ∀ u : Fin 32, kOf (otRows.find? (rmt 1 (u.val : Int))) = rgTab.getD u.val 0 := by decide +kernel
theorem k_s2 : ∀ u : Fin 64, kOf (otRows.find? (rmt 28 (u.val : Int))) = s2Tab.getD u.val 0 := by decide +kernel
theorem k_tb : ∀ u : Fin 64, kOf (otRows.find? (rmt 16 (64 + (u.val : Int)))) = tbTab.getD u.val 0 := by decide +kernel
theorem k_c0 : ∀ u : Fin 32, u.val ≠ 16 → kOf (otRows.find? (rmt 16 (u.val : Int))) = if u.val = 0 then 54 else if u.val = 4 then 55 else 0 := by decide +kernel
theorem k_mj : ∀ o : Fin 64, o.val ≠ 0 → o.val ≠ 1 → o.val ≠ 16 → o.val ≠ 28 → kOf (plRows.find? (rmt o.val 0)) = mjTab.getD o.val 0 := by decide +kernel
theorem rOf_k (w : BitVec 32) : kOf ((rowsOf (w >>> 26).toNat).find? (rmt (w >>> 26).toNat (rsub w))) = dkind w := by
  have h64 : (w >>> 26).toNat < 64 := lt_shr w 26 64 (by omega) (by omega)
  have f63 := lt_and63 w
  have f16 := lt_and31 (w >>> 16)
  have f21 := lt_and31 (w >>> 21)
  have e : ∀ n : Nat, n < 64 → ((w >>> 26).toNat = n ↔ w >>> 26 = BitVec.ofNat 32 n) := fun n hn => by
    rw [← BitVec.toNat_inj, BitVec.toNat_ofNat, Nat.mod_eq_of_lt (by omega)]
  have r1 : rowsOf 1 = otRows := rfl
  have r16 : rowsOf 16 = otRows := rfl
  have r28 : rowsOf 28 = otRows := rfl
  have r0 : rowsOf 0 = spRows := rfl
  by_cases c0 : w >>> 26 = 0#32
  · have n0 := (e 0 (by omega)).mpr c0
    have hs : rsub w = ((w &&& 63#32).toNat : Int) := by unfold rsub; rw [if_pos (.inl c0)]
    have hd : dkind w = spTab.getD (w &&& 63#32).toNat 0 := by unfold dkind; rw [if_pos c0]
    rw [n0, hs, hd, r0]
    exact k_sp ⟨_, f63⟩
  have n0 : (w >>> 26).toNat ≠ 0 := fun hh => c0 ((e 0 (by omega)).mp hh)
  by_cases c1 : w >>> 26 = 1#32
  · have n1 := (e 1 (by omega)).mpr c1
    have c28 : ¬ (w >>> 26 = 0#32 ∨ w >>> 26 = 28#32) := by rw [c1]; decide
    have hs : rsub w = ((w >>> 16 &&& 31#32).toNat : Int) := by unfold rsub; rw [if_neg c28, if_pos c1]
    have hd : dkind w = rgTab.getD (w >>> 16 &&& 31#32).toNat 0 := by unfold dkind; rw [if_neg c0, if_pos c1]
    rw [n1, hs, hd, r1]
    exact k_rg ⟨_, f16⟩
  have n1 : (w >>> 26).toNat ≠ 1 := fun hh => c1 ((e 1 (by omega)).mp hh)
  by_cases c2 : w >>> 26 = 16#32
  · have n2 := (e 16 (by omega)).mpr c2
    have c28 : ¬ (w >>> 26 = 0#32 ∨ w >>> 26 = 28#32) := by rw [c2]; decide
    have hd : dkind w = (if w >>> 21 &&& 31#32 = 0#32 then 54 else if w >>> 21 &&& 31#32 = 4#32 then 55 else if w >>> 21 &&& 31#32 = 16#32 then tbTab.getD (w &&& 63#32).toNat 0 else 0) := by unfold dkind; rw [if_neg c0, if_neg c1, if_pos c2]
    have e' : ∀ n : Nat, n < 32 → ((w >>> 21 &&& 31#32).toNat = n ↔ w >>> 21 &&& 31#32 = BitVec.ofNat 32 n) := fun n hn => by
      rw [← BitVec.toNat_inj, BitVec.toNat_ofNat, Nat.mod_eq_of_lt (by omega)]
    by_cases d16 : w >>> 21 &&& 31#32 = 16#32
    · have hs : rsub w = 64 + ((w &&& 63#32).toNat : Int) := by unfold rsub; rw [if_neg c28, if_neg c1, if_pos c2, if_pos d16]
      have hd' : dkind w = tbTab.getD (w &&& 63#32).toNat 0 := by rw [hd, d16]; rfl
      rw [n2, hs, hd', r16]
      exact k_tb ⟨_, f63⟩
    · have hs : rsub w = ((w >>> 21 &&& 31#32).toNat : Int) := by unfold rsub; rw [if_neg c28, if_neg c1, if_pos c2, if_neg d16]
      have m16 : (w >>> 21 &&& 31#32).toNat ≠ 16 := fun hh => d16 ((e' 16 (by omega)).mp hh)
      rw [n2, hs, hd, r16, k_c0 ⟨_, f21⟩ m16]
      by_cases d0 : w >>> 21 &&& 31#32 = 0#32
      · rw [if_pos ((e' 0 (by omega)).mpr d0), if_pos d0]
      · rw [if_neg (fun hh => d0 ((e' 0 (by omega)).mp hh)), if_neg d0]
        by_cases d4 : w >>> 21 &&& 31#32 = 4#32
        · rw [if_pos ((e' 4 (by omega)).mpr d4), if_pos d4]
        · rw [if_neg (fun hh => d4 ((e' 4 (by omega)).mp hh)), if_neg d4, if_neg d16]
  have n2 : (w >>> 26).toNat ≠ 16 := fun hh => c2 ((e 16 (by omega)).mp hh)
  by_cases c3 : w >>> 26 = 28#32
  · have n3 := (e 28 (by omega)).mpr c3
    have hs : rsub w = ((w &&& 63#32).toNat : Int) := by unfold rsub; rw [if_pos (.inr c3)]
    have hd : dkind w = s2Tab.getD (w &&& 63#32).toNat 0 := by unfold dkind; rw [if_neg c0, if_neg c1, if_neg c2, if_pos c3]
    rw [n3, hs, hd, r28]
    exact k_s2 ⟨_, f63⟩
  have n3 : (w >>> 26).toNat ≠ 28 := fun hh => c3 ((e 28 (by omega)).mp hh)
  have hs : rsub w = 0 := by unfold rsub; rw [if_neg (fun hh => hh.elim c0 c3), if_neg c1, if_neg c2]
  have hd : dkind w = mjTab.getD (w >>> 26).toNat 0 := by unfold dkind; rw [if_neg c0, if_neg c1, if_neg c2, if_neg c3]
  have hr : rowsOf (w >>> 26).toNat = plRows := by unfold rowsOf; rw [if_neg n0, if_neg (by omega)]
  rw [hs, hd, hr]
  exact k_mj ⟨_, h64⟩ n0 n1 n2 n3
theorem rOf_eq (w : BitVec 32) : rOf w = dOf w := by
  have hk := rOf_k w
  unfold rOf dOf
  cases hf : (rowsOf (w >>> 26).toNat).find? (rmt (w >>> 26).toNat (rsub w)) with
  | none =>
    rw [hf] at hk
    rw [← hk]
    simp (config := {decide := true}) [rRes, kOf, dwith, dfld, fdTab]
  | some r =>
    rw [hf] at hk
    have hk : r.k = dkind w := hk
    rw [← hk]
    have hr := rows_ok' _ r (List.mem_of_find?_eq_some hf)
    simp only [rowOk, Bool.and_eq_true, beq_iff_eq, decide_eq_true_eq] at hr
    obtain ⟨⟨⟨⟨⟨⟨hkk, h0⟩, h1⟩, h2⟩, h3⟩, h4⟩, h5⟩ := hr
    have h45 : ¬ ((dfld r.k).testBit 4 = true ∧ (dfld r.k).testBit 5 = true) := by
      rcases dfld_all hkk with e | e | e | e | e | e | e | e | e | e | e | e <;> rw [e] <;> decide
    simp only [rRes, rIns, kOf, dwith, h0, h1, h2, h3, h4, h5]
    congr 1
    by_cases b4 : (dfld r.k).testBit 4 = true
    · have b5 : ¬ (dfld r.k).testBit 5 = true := fun hh => h45 ⟨b4, hh⟩
      rw [if_neg b5, if_pos b4, if_pos b4]
    · rw [if_neg b4, if_neg b4]
section
variable {h : Hp} {w : BitVec 32}
theorem r3_ofd : WC T n_34 [u32 w] h fun v h' => v = .agg (encIns.enc (dOf w)).toArray ∧ Kp h h' := by
  rw [← rOf_eq]
  exact r3_of
end
end Go.Proofs.YtmgoleiafiffoaaGreat.Cd

/- decode: classes, fields put together, right or not. -/
set_option maxRecDepth 1000000
set_option maxHeartbeats 8000000
set_option linter.unusedSimpArgs false
set_option linter.unusedVariables false
namespace Go.Proofs.YtmgoleiafiffoaaGreat.Cd
open Go Go.Dx
section
variable {h : Hp} {q : Value → Hp → Prop} {w : BitVec 32} {k : Int} {i : Ins}
theorem dec_classN {n : Nat} {s t d sh : Int} {m : BitVec 32} (hn : n < 78) : WC T n_08 [.agg (encIns.enc ⟨n, s, t, d, sh, m⟩).toArray] h q ↔ q (.int .i64 (dcls n)) (h.push (.cells false (encIns.enc ⟨n, s, t, d, sh, m⟩))) := by
  rw [w_08]
  rcases (by omega : n = 0 ∨ n = 1 ∨ n = 2 ∨ n = 3 ∨ n = 4 ∨ n = 5 ∨ n = 6 ∨ n = 7 ∨ n = 8 ∨ n = 9 ∨ n = 10 ∨ n = 11 ∨ n = 12 ∨ n = 13 ∨ n = 14 ∨ n = 15 ∨ n = 16 ∨ n = 17 ∨ n = 18 ∨ n = 19 ∨ n = 20 ∨ n = 21 ∨ n = 22 ∨ n = 23 ∨ n = 24 ∨ n = 25 ∨ n = 26 ∨ n = 27 ∨ n = 28 ∨ n = 29 ∨ n = 30 ∨ n = 31 ∨ n = 32 ∨ n = 33 ∨ n = 34 ∨ n = 35 ∨ n = 36 ∨ n = 37 ∨ n = 38 ∨ n = 39 ∨ n = 40 ∨ n = 41 ∨ n = 42 ∨ n = 43 ∨ n = 44 ∨ n = 45 ∨ n = 46 ∨ n = 47 ∨ n = 48 ∨ n = 49 ∨ n = 50 ∨ n = 51 ∨ n = 52 ∨ n = 53 ∨ n = 54 ∨ n = 55 ∨ n = 56 ∨ n = 57 ∨ n = 58 ∨ n = 59 ∨ n = 60 ∨ n = 61 ∨ n = 62 ∨ n = 63 ∨ n = 64 ∨ n = 65 ∨ n = 66 ∨ n = 67 ∨ n = 68 ∨ n = 69 ∨ n = 70 ∨ n = 71 ∨ n = 72 ∨ n = 73 ∨ n = 74 ∨ n = 75 ∨ n = 76 ∨ n = 77) with rfl | rfl | rfl | rfl | rfl | rfl | rfl | rfl | rfl | rfl | rfl | rfl | rfl | rfl | rfl | rfl | rfl | rfl | rfl | rfl | rfl | rfl | rfl | rfl | rfl | rfl | rfl | rfl | rfl | rfl | rfl | rfl | rfl | rfl | rfl | rfl | rfl | rfl | rfl | rfl | rfl | rfl | rfl | rfl | rfl | rfl | rfl | rfl | rfl | rfl | rfl | rfl | rfl | rfl | rfl | rfl | rfl | rfl | rfl | rfl | rfl | rfl | rfl | rfl | rfl | rfl | rfl | rfl | rfl | rfl | rfl | rfl | rfl | rfl | rfl | rfl | rfl | rfl <;> simp (maxSteps:=9^7)(disch:=first|assumption|((try simp only[nX]);omega)|simp) [encIns, dcls, clTab]
theorem dec_class (hk : 0 ≤ i.k ∧ i.k ≤ 77) : WC T n_08 [.agg (encIns.enc i).toArray] h q ↔ q (.int .i64 (dcls i.k)) (h.push (.cells false (encIns.enc i))) := by
  obtain ⟨k, s, t, d, sh, m⟩ := i
  obtain ⟨n, rfl⟩ : ∃ n : Nat, k = n := ⟨k.toNat, by simp at hk; omega⟩
  exact dec_classN (by simp at hk; omega)
theorem dec_put : WC T n_0f [.agg (encIns.enc i).toArray] h q ↔ q (u32 (dput i)) (h.push (.cells false (encIns.enc i))) := by
  rw [w_0f]
  simp (maxSteps:=9^7)(disch:=first|assumption|((try simp only[nX]);omega)|simp) [encIns, dput]
end
end Go.Proofs.YtmgoleiafiffoaaGreat.Cd

/- decode: an instruction that a word is, is right. -/
set_option maxRecDepth 1000000
set_option maxHeartbeats 8000000
set_option linter.unusedSimpArgs false
set_option linter.unusedVariables false
namespace Go.Proofs.YtmgoleiafiffoaaGreat.Cd
open Go Go.Dx
section
variable {h : Hp} {q : Value → Hp → Prop} {w : BitVec 32} {k : Int} {i : Ins}
theorem eq_ins (x y : Ins) : eqV (.agg [(0, 1, false, (.int .i64)), (1, 1, false, (.int .i64)), (2, 1, false, (.int .i64)), (3, 1, false, (.int .i64)), (4, 1, false, (.int .i64)), (5, 1, false, (.int .u32))]) (.agg (encIns.enc x).toArray) (.agg (encIns.enc y).toArray) = some (decide (x = y)) := by
  obtain ⟨a1, a2, a3, a4, a5, a6⟩ := x
  obtain ⟨b1, b2, b3, b4, b5, b6⟩ := y
  simp only [eqV, eqAt, encIns, eqParts]
  simp
  by_cases h1 : a1 = b1
  · by_cases h2 : a2 = b2
    · by_cases h3 : a3 = b3
      · by_cases h4 : a4 = b4
        · by_cases h5 : a5 = b5
          · by_cases h6 : a6 = b6 <;> simp [h1, h2, h3, h4, h5, h6]
          · simp [h1, h2, h3, h4, h5]
        · simp [h1, h2, h3, h4]
      · simp [h1, h2, h3]
    · simp [h1, h2]
  · simp [h1]
theorem eq_ins6 {a1 a2 a3 a4 a5 b1 b2 b3 b4 b5 : Int} {a6 b6 : BitVec 32} : eqV (.agg [(0, 1, false, (.int .i64)), (1, 1, false, (.int .i64)), (2, 1, false, (.int .i64)), (3, 1, false, (.int .i64)), (4, 1, false, (.int .i64)), (5, 1, false, (.int .u32))]) (.agg #[.int .i64 a1, .int .i64 a2, .int .i64 a3, .int .i64 a4, .int .i64 a5, u32 a6]) (.agg #[.int .i64 b1, .int .i64 b2, .int .i64 b3, .int .i64 b4, .int .i64 b5, u32 b6]) = some (decide ((⟨a1, a2, a3, a4, a5, a6⟩ : Ins) = ⟨b1, b2, b3, b4, b5, b6⟩)) := eq_ins ⟨a1, a2, a3, a4, a5, a6⟩ ⟨b1, b2, b3, b4, b5, b6⟩
theorem dec_right : WC T n_0a [.agg (encIns.enc (dOf w)).toArray] h fun v h' => v = .bool (decide ((dOf w).k ≠ 0)) ∧ Kp h h' := by
  obtain ⟨hk, hs, ht, hd, hh, hm⟩ := dOf_bd w
  have hp := dOf_put w
  have hi : (dOf w).imm ≤ 67108863#32 := by rw [BitVec.le_def]; simpa using hm
  generalize dOf w = i at *
  obtain ⟨k, s, t, d, sh, m⟩ := i
  simp only at hk hs ht hd hh hm hi hp
  have hw := fun h => dec_with (h := h) (w := dput ⟨k, s, t, d, sh, m⟩) hk
  rw [hp] at hw
  have hq := fun h q => dec_put (h := h) (q := q) (i := ⟨k, s, t, d, sh, m⟩)
  simp only [encIns] at hq hw
  generalize dput ⟨k, s, t, d, sh, m⟩ = p at *
  have s0 : ¬ s < 0 := by omega
  have s1 : ¬ 31 < s := by omega
  have t0 : ¬ t < 0 := by omega
  have t1 : ¬ 31 < t := by omega
  have d0 : ¬ d < 0 := by omega
  have d1 : ¬ 31 < d := by omega
  have h0 : ¬ sh < 0 := by omega
  have h1 : ¬ 31 < sh := by omega
  have k1 : k < 78 := by omega
  rw [w_0a]
  simp (maxSteps:=9^7)(disch:=first|assumption|((try simp only[nX]);omega)|simp) [encIns]
  rw [G_round]
  simp (maxSteps:=9^7)(disch:=first|assumption|((try simp only[nX]);omega)|simp) [s0, s1]
  rw [G_round]
  simp (maxSteps:=9^7)(disch:=first|assumption|((try simp only[nX]);omega)|simp) [t0, t1]
  rw [G_round]
  simp (maxSteps:=9^7)(disch:=first|assumption|((try simp only[nX]);omega)|simp) [d0, d1]
  rw [G_round]
  simp (maxSteps:=9^7)(disch:=first|assumption|((try simp only[nX]);omega)|simp) [h0, h1]
  rw [G_round]
  by_cases k0 : k = 0
  · subst k0
    simp (maxSteps:=9^7)(disch:=first|assumption|((try simp only[nX]);omega)|simp)
  · have k2 : 0 < k := by omega
    simp (maxSteps:=9^7)(disch:=first|assumption|((try simp only[nX]);omega)|simp) [k0, k1, k2, hi, GC_of (hq _), GCI_of (hq _)]
    refine GCI_intro (hw _) fun v h2 ⟨hv, K⟩ => ?_
    subst hv
    have g2 : h2.get h.next = some (.cells false [.int .i64 k, .int .i64 s, .int .i64 t, .int .i64 d, .int .i64 sh, u32 m]) := by
      rw [K.get h.next (by simp; omega)]
      simp (maxSteps:=9^7)(disch:=first|assumption|((try simp only[nX]);omega)|simp) []
    have r2 := rdn_all (n := 6) g2 rfl
    have K0 : Kp h h2 := Kp.trans (by simp (maxSteps:=9^7)(disch:=first|assumption|((try simp only[nX]);omega)|simp) []) K
    simp (maxSteps:=9^7)(disch:=first|assumption|((try simp only[nX]);omega)|simp) [r2, eq_ins6]
    exact K0
end
end Go.Proofs.YtmgoleiafiffoaaGreat.Cd

/- lift: kinds, numbers. -/
set_option maxRecDepth 1000000
set_option maxHeartbeats 8000000
set_option linter.unusedSimpArgs false
set_option linter.unusedVariables false
namespace Go.Proofs.YtmgoleiafiffoaaGreat.Cd
open Go Go.Dx
section
variable {h : Hp} {q : Value → Hp → Prop} {w : BitVec 32} {k : Int} {i : Ins}
theorem lift_kindN {n : Nat} (hn : n < 78) : WC T n_0w [.int .i64 (n : Int)] h q ↔ q (.int .i64 (lkd n)) h := by
  rw [w_0w]
  rcases (by omega : n = 0 ∨ n = 1 ∨ n = 2 ∨ n = 3 ∨ n = 4 ∨ n = 5 ∨ n = 6 ∨ n = 7 ∨ n = 8 ∨ n = 9 ∨ n = 10 ∨ n = 11 ∨ n = 12 ∨ n = 13 ∨ n = 14 ∨ n = 15 ∨ n = 16 ∨ n = 17 ∨ n = 18 ∨ n = 19 ∨ n = 20 ∨ n = 21 ∨ n = 22 ∨ n = 23 ∨ n = 24 ∨ n = 25 ∨ n = 26 ∨ n = 27 ∨ n = 28 ∨ n = 29 ∨ n = 30 ∨ n = 31 ∨ n = 32 ∨ n = 33 ∨ n = 34 ∨ n = 35 ∨ n = 36 ∨ n = 37 ∨ n = 38 ∨ n = 39 ∨ n = 40 ∨ n = 41 ∨ n = 42 ∨ n = 43 ∨ n = 44 ∨ n = 45 ∨ n = 46 ∨ n = 47 ∨ n = 48 ∨ n = 49 ∨ n = 50 ∨ n = 51 ∨ n = 52 ∨ n = 53 ∨ n = 54 ∨ n = 55 ∨ n = 56 ∨ n = 57 ∨ n = 58 ∨ n = 59 ∨ n = 60 ∨ n = 61 ∨ n = 62 ∨ n = 63 ∨ n = 64 ∨ n = 65 ∨ n = 66 ∨ n = 67 ∨ n = 68 ∨ n = 69 ∨ n = 70 ∨ n = 71 ∨ n = 72 ∨ n = 73 ∨ n = 74 ∨ n = 75 ∨ n = 76 ∨ n = 77) with rfl | rfl | rfl | rfl | rfl | rfl | rfl | rfl | rfl | rfl | rfl | rfl | rfl | rfl | rfl | rfl | rfl | rfl | rfl | rfl | rfl | rfl | rfl | rfl | rfl | rfl | rfl | rfl | rfl | rfl | rfl | rfl | rfl | rfl | rfl | rfl | rfl | rfl | rfl | rfl | rfl | rfl | rfl | rfl | rfl | rfl | rfl | rfl | rfl | rfl | rfl | rfl | rfl | rfl | rfl | rfl | rfl | rfl | rfl | rfl | rfl | rfl | rfl | rfl | rfl | rfl | rfl | rfl | rfl | rfl | rfl | rfl | rfl | rfl | rfl | rfl | rfl | rfl <;> simp (maxSteps:=9^7)(disch:=first|assumption|((try simp only[nX]);omega)|simp) [lkd, lkTab]
theorem lift_kind (hk : 0 ≤ k ∧ k ≤ 77) : WC T n_0w [.int .i64 k] h q ↔ q (.int .i64 (lkd k)) h := by
  obtain ⟨n, rfl⟩ : ∃ n : Nat, k = n := ⟨k.toNat, by omega⟩
  exact lift_kindN (by omega)
theorem word_sign : WC T n_57 [u32 w, .int .i64 16] h q ↔ q (u32 (sxt w)) h := by
  rw [w_57]
  have h16 : binV .shl (u32 w) (.int .i64 16) = some (u32 (w <<< 16)) := by simpa using shl_u32_n w .i64 16
  simp (maxSteps:=9^7)(disch:=first|assumption|((try simp only[nX]);omega)|simp) [h16, GC_of (fun q => word_sar (h := h) (q := q) (a := w <<< 16) (n := 16)), sxt]
theorem lift_imm : WC T n_0v [.agg (encIns.enc i).toArray] h q ↔ q (u32 (limm i)) (h.push (.cells false (encIns.enc i))) := by
  rw [w_0v]
  unfold limm
  have hs := fun h q => word_sign (h := h) (q := q) (w := i.imm)
  by_cases c1 : i.k = 50
  · simp (maxSteps:=9^7)(disch:=first|assumption|((try simp only[nX]);omega)|simp) [encIns, c1]
  by_cases c2 : i.k = 51
  · simp (maxSteps:=9^7)(disch:=first|assumption|((try simp only[nX]);omega)|simp) [encIns, c1, c2]
  by_cases c3 : i.k = 52
  · simp (maxSteps:=9^7)(disch:=first|assumption|((try simp only[nX]);omega)|simp) [encIns, c1, c2, c3]
  simp (maxSteps:=9^7)(disch:=first|assumption|((try simp only[nX]);omega)|simp) [encIns, c1, c2, c3, GC_of (hs _)]
theorem alu_IsN {n : Nat} (hn : n < 78) : WC T n_01 [.int .i64 (n : Int)] h q ↔ q (.bool (aIs n)) h := by
  rw [w_01]
  rcases (by omega : n = 0 ∨ n = 1 ∨ n = 2 ∨ n = 3 ∨ n = 4 ∨ n = 5 ∨ n = 6 ∨ n = 7 ∨ n = 8 ∨ n = 9 ∨ n = 10 ∨ n = 11 ∨ n = 12 ∨ n = 13 ∨ n = 14 ∨ n = 15 ∨ n = 16 ∨ n = 17 ∨ n = 18 ∨ n = 19 ∨ n = 20 ∨ n = 21 ∨ n = 22 ∨ n = 23 ∨ n = 24 ∨ n = 25 ∨ n = 26 ∨ n = 27 ∨ n = 28 ∨ n = 29 ∨ n = 30 ∨ n = 31 ∨ n = 32 ∨ n = 33 ∨ n = 34 ∨ n = 35 ∨ n = 36 ∨ n = 37 ∨ n = 38 ∨ n = 39 ∨ n = 40 ∨ n = 41 ∨ n = 42 ∨ n = 43 ∨ n = 44 ∨ n = 45 ∨ n = 46 ∨ n = 47 ∨ n = 48 ∨ n = 49 ∨ n = 50 ∨ n = 51 ∨ n = 52 ∨ n = 53 ∨ n = 54 ∨ n = 55 ∨ n = 56 ∨ n = 57 ∨ n = 58 ∨ n = 59 ∨ n = 60 ∨ n = 61 ∨ n = 62 ∨ n = 63 ∨ n = 64 ∨ n = 65 ∨ n = 66 ∨ n = 67 ∨ n = 68 ∨ n = 69 ∨ n = 70 ∨ n = 71 ∨ n = 72 ∨ n = 73 ∨ n = 74 ∨ n = 75 ∨ n = 76 ∨ n = 77) with rfl | rfl | rfl | rfl | rfl | rfl | rfl | rfl | rfl | rfl | rfl | rfl | rfl | rfl | rfl | rfl | rfl | rfl | rfl | rfl | rfl | rfl | rfl | rfl | rfl | rfl | rfl | rfl | rfl | rfl | rfl | rfl | rfl | rfl | rfl | rfl | rfl | rfl | rfl | rfl | rfl | rfl | rfl | rfl | rfl | rfl | rfl | rfl | rfl | rfl | rfl | rfl | rfl | rfl | rfl | rfl | rfl | rfl | rfl | rfl | rfl | rfl | rfl | rfl | rfl | rfl | rfl | rfl | rfl | rfl | rfl | rfl | rfl | rfl | rfl | rfl | rfl | rfl <;> simp (maxSteps:=9^7)(disch:=first|assumption|((try simp only[nX]);omega)|simp) [aIs]
theorem alu_is (hk : 0 ≤ k ∧ k ≤ 77) : WC T n_01 [.int .i64 k] h q ↔ q (.bool (aIs k)) h := by
  obtain ⟨n, rfl⟩ : ∃ n : Nat, k = n := ⟨k.toNat, by omega⟩
  exact alu_IsN (by omega)
theorem alu_into (hk : 0 ≤ i.k ∧ i.k ≤ 77) : WC T n_00 [.agg (encIns.enc i).toArray] h q ↔ q (.int .i64 (aInto i)) (h.push (.cells false (encIns.enc i))) := by
  rw [w_00]
  unfold aInto
  have hi := fun h q => alu_is (h := h) (q := q) hk
  cases c1 : aIs i.k with
  | false => simp (maxSteps:=9^7)(disch:=first|assumption|((try simp only[nX]);omega)|simp) [encIns, c1, GC_of (hi _)]
  | true =>
    by_cases c2 : 46 ≤ i.k
    · by_cases c3 : i.k ≤ 53
      · simp (maxSteps:=9^7)(disch:=first|assumption|((try simp only[nX]);omega)|simp) [encIns, c1, c2, c3, GC_of (hi _)]
      · simp (maxSteps:=9^7)(disch:=first|assumption|((try simp only[nX]);omega)|simp) [encIns, c1, c2, c3, GC_of (hi _)]
    · simp (maxSteps:=9^7)(disch:=first|assumption|((try simp only[nX]);omega)|simp) [encIns, c1, c2, GC_of (hi _)]
theorem lift_is : WC T n_0t [.agg (encIns.enc (dOf w)).toArray] h fun v h' => v = .bool (decide ((dOf w).k ≠ 0) && decide (dcls (dOf w).k = 1)) ∧ Kp h h' := by
  have hk := (dOf_bd w).1
  rw [w_0t]
  simp (maxSteps:=9^7)(disch:=first|assumption|((try simp only[nX]);omega)|simp) [encIns]
  have hr := fun h => dec_right (h := h) (w := w)
  simp only [encIns] at hr
  refine GC_intro (hr _) fun v h1 ⟨hv, K1⟩ => ?_
  subst hv
  have g1 : h1.get h.next = some (.cells false [.int .i64 (dOf w).k, .int .i64 (dOf w).s, .int .i64 (dOf w).t, .int .i64 (dOf w).d, .int .i64 (dOf w).sh, u32 (dOf w).imm]) := by
    rw [K1.get h.next (by simp)]
    simp (maxSteps:=9^7)(disch:=first|assumption|((try simp only[nX]);omega)|simp) []
  have r1 := rdn_all (n := 6) g1 rfl
  have K0 : Kp h h1 := Kp.trans (by simp (maxSteps:=9^7)(disch:=first|assumption|((try simp only[nX]);omega)|simp) []) K1
  have hc := fun q => dec_class (h := h1) (q := q) hk
  simp only [encIns] at hc
  by_cases k0 : (dOf w).k = 0
  · simp (maxSteps:=9^7)(disch:=first|assumption|((try simp only[nX]);omega)|simp) [k0]
    exact K0
  · by_cases k1 : dcls (dOf w).k = 1
    · simp (maxSteps:=9^7)(disch:=first|assumption|((try simp only[nX]);omega)|simp) [k0, k1, r1, GC_of hc]
    · simp (maxSteps:=9^7)(disch:=first|assumption|((try simp only[nX]);omega)|simp) [k0, k1, r1, GC_of hc]
end
end Go.Proofs.YtmgoleiafiffoaaGreat.Cd

/- The document's reckoning. -/
set_option maxRecDepth 1000000
set_option maxHeartbeats 8000000
set_option linter.unusedSimpArgs false
set_option linter.unusedVariables false
namespace Go.Proofs.YtmgoleiafiffoaaGreat.Cd
open Go Go.Dx
section
variable {h : Hp} {q : Value → Hp → Prop} {v s t hi lo : BitVec 32} {i : Ins}
theorem r_sign : WC T n_2u [u32 v, .int .i64 16] h q ↔ q (u32 (sxt v)) h := by
  rw [w_2u, sxt_doc]
  by_cases c : (v &&& 65535#32) >>> 15 = 1#32
  · simp (maxSteps:=9^7)(disch:=first|assumption|((try simp only[nX]);omega)|simp) [c]
  · simp (maxSteps:=9^7)(disch:=first|assumption|((try simp only[nX]);omega)|simp) [c]
theorem r4_bit {b : Bool} : WC T n_3n [.bool b] h q ↔ q (u32 (b1 b)) h := by
  rw [w_3n]
  cases b <;> simp (maxSteps:=9^7)(disch:=first|assumption|((try simp only[nX]);omega)|simp) [b1]
theorem r4_shift {how : Int} {m : Nat} (hm : m < 32) (hh : 0 ≤ how ∧ how ≤ 2) : WC T n_3o [.int .i64 how, u32 v, .int .i64 (m : Int)] h q ↔ q (u32 (if how = 0 then v <<< m else if how = 1 then v >>> m else sar v m)) h := by
  have hs := fun q => WC_iff (ref_sar (h := h) (v := v) hm) q
  have e0 : (m : Int).tmod 32 = m := by rw [Int.tmod_eq_emod_of_nonneg (by omega)]; omega
  have e2 : ((m : Int) + 32).tmod 32 = m := by rw [Int.tmod_eq_emod_of_nonneg (by omega)]; omega
  have e3 : m % 18446744073709551616 = m := Nat.mod_eq_of_lt (by omega)
  rw [w_3o]
  by_cases c0 : how = 0
  · simp (maxSteps:=9^7)(disch:=first|assumption|((try simp only[nX]);omega)|simp) [c0, e0, e2, e3]
  by_cases c1 : how = 1
  · simp (maxSteps:=9^7)(disch:=first|assumption|((try simp only[nX]);omega)|simp) [c0, c1, e0, e2, e3]
  · simp (maxSteps:=9^7)(disch:=first|assumption|((try simp only[nX]);omega)|simp) [c0, c1, e0, e2, e3, GC_of hs]
theorem r4_IsN {n : Nat} (hn : n < 78) : WC T n_3i [.int .i64 (n : Int)] h q ↔ q (.bool (aIs n)) h := by
  rw [w_3i]
  rcases (by omega : n = 0 ∨ n = 1 ∨ n = 2 ∨ n = 3 ∨ n = 4 ∨ n = 5 ∨ n = 6 ∨ n = 7 ∨ n = 8 ∨ n = 9 ∨ n = 10 ∨ n = 11 ∨ n = 12 ∨ n = 13 ∨ n = 14 ∨ n = 15 ∨ n = 16 ∨ n = 17 ∨ n = 18 ∨ n = 19 ∨ n = 20 ∨ n = 21 ∨ n = 22 ∨ n = 23 ∨ n = 24 ∨ n = 25 ∨ n = 26 ∨ n = 27 ∨ n = 28 ∨ n = 29 ∨ n = 30 ∨ n = 31 ∨ n = 32 ∨ n = 33 ∨ n = 34 ∨ n = 35 ∨ n = 36 ∨ n = 37 ∨ n = 38 ∨ n = 39 ∨ n = 40 ∨ n = 41 ∨ n = 42 ∨ n = 43 ∨ n = 44 ∨ n = 45 ∨ n = 46 ∨ n = 47 ∨ n = 48 ∨ n = 49 ∨ n = 50 ∨ n = 51 ∨ n = 52 ∨ n = 53 ∨ n = 54 ∨ n = 55 ∨ n = 56 ∨ n = 57 ∨ n = 58 ∨ n = 59 ∨ n = 60 ∨ n = 61 ∨ n = 62 ∨ n = 63 ∨ n = 64 ∨ n = 65 ∨ n = 66 ∨ n = 67 ∨ n = 68 ∨ n = 69 ∨ n = 70 ∨ n = 71 ∨ n = 72 ∨ n = 73 ∨ n = 74 ∨ n = 75 ∨ n = 76 ∨ n = 77) with rfl | rfl | rfl | rfl | rfl | rfl | rfl | rfl | rfl | rfl | rfl | rfl | rfl | rfl | rfl | rfl | rfl | rfl | rfl | rfl | rfl | rfl | rfl | rfl | rfl | rfl | rfl | rfl | rfl | rfl | rfl | rfl | rfl | rfl | rfl | rfl | rfl | rfl | rfl | rfl | rfl | rfl | rfl | rfl | rfl | rfl | rfl | rfl | rfl | rfl | rfl | rfl | rfl | rfl | rfl | rfl | rfl | rfl | rfl | rfl | rfl | rfl | rfl | rfl | rfl | rfl | rfl | rfl | rfl | rfl | rfl | rfl | rfl | rfl | rfl | rfl | rfl | rfl <;> simp (maxSteps:=9^7)(disch:=first|assumption|((try simp only[nX]);omega)|simp) [aIs]
theorem r4_is {k : Int} (hk : 0 ≤ k ∧ k ≤ 77) : WC T n_3i [.int .i64 k] h q ↔ q (.bool (aIs k)) h := by
  obtain ⟨n, rfl⟩ : ∃ n : Nat, k = n := ⟨k.toNat, by omega⟩
  exact r4_IsN (by omega)
theorem r4_into (hk : 0 ≤ i.k ∧ i.k ≤ 77) : WC T n_3h [.agg (encIns.enc i).toArray] h q ↔ q (.int .i64 (aInto i)) (h.push (.cells false (encIns.enc i))) := by
  rw [w_3h]
  unfold aInto
  have hi := fun h q => r4_is (h := h) (q := q) hk
  cases c1 : aIs i.k with
  | false => simp (maxSteps:=9^7)(disch:=first|assumption|((try simp only[nX]);omega)|simp) [encIns, c1, GC_of (hi _)]
  | true =>
    by_cases c2 : 46 ≤ i.k
    · by_cases c3 : i.k ≤ 53
      · simp (maxSteps:=9^7)(disch:=first|assumption|((try simp only[nX]);omega)|simp) [encIns, c1, c2, c3, GC_of (hi _)]
      · simp (maxSteps:=9^7)(disch:=first|assumption|((try simp only[nX]);omega)|simp) [encIns, c1, c2, c3, GC_of (hi _)]
    · simp (maxSteps:=9^7)(disch:=first|assumption|((try simp only[nX]);omega)|simp) [encIns, c1, c2, GC_of (hi _)]
theorem r4_do (hk : 0 ≤ i.k ∧ i.k ≤ 77) (hsh : 0 ≤ i.sh ∧ i.sh ≤ 31) : WC T n_3f [.agg (encIns.enc i).toArray, u32 s, u32 t] h q ↔ q (.tuple #[u32 (if aIs i.k then xdo i s t else 0#32), .bool (aIs i.k)]) (h.push (.cells false (encIns.enc i))) := by
  obtain ⟨k, a, b, d, sh, im⟩ := i
  simp only at hk hsh
  obtain ⟨m, rfl⟩ : ∃ m : Nat, sh = m := ⟨sh.toNat, by omega⟩
  have hm : m < 32 := by omega
  have hsg := fun h q => r_sign (h := h) (q := q) (v := im)
  have hs0 := fun h q => r4_shift (h := h) (q := q) (v := t) (how := 0) hm (by omega)
  have hs1 := fun h q => r4_shift (h := h) (q := q) (v := t) (how := 1) hm (by omega)
  have hs2 := fun h q => r4_shift (h := h) (q := q) (v := t) (how := 2) hm (by omega)
  have hv0 := fun h q => r4_shift (h := h) (q := q) (v := t) (how := 0) (m := s.toNat % 32) (by omega) (by omega)
  have hv1 := fun h q => r4_shift (h := h) (q := q) (v := t) (how := 1) (m := s.toNat % 32) (by omega) (by omega)
  have hv2 := fun h q => r4_shift (h := h) (q := q) (v := t) (how := 2) (m := s.toNat % 32) (by omega) (by omega)
  have hl := fun h q x y z => ref_less (h := h) (q := q) (a := x) (b := y) (s := z)
  have hb := fun h q z => r4_bit (h := h) (q := q) (b := z)
  have hmu := fun h q => ref_mul (h := h) (q := q) (a := s) (b := t) (s := true)
  have hcz := fun h q => WC_iff (ref_clz (h := h) (v := s)) q
  have hco := fun h q => WC_iff (ref_clo (h := h) (v := s)) q
  have e32 : m % 4294967296 % 32 = m := by omega
  have e33 : (BitVec.ofInt 32 (m : Int)).toNat % 32 = m := by rw [BitVec.ofInt_natCast, BitVec.toNat_ofNat]; omega
  have em : m % 32 = m := by omega
  have lui : (im &&& 65535#32) <<< 16 = im <<< 16 := by
    apply BitVec.eq_of_toNat_eq
    rw [BitVec.toNat_shiftLeft, BitVec.toNat_shiftLeft, fd_half, Nat.shiftLeft_eq, Nat.shiftLeft_eq]
    omega
  have cn : ((s.toNat % 32 : Nat) : Int) = (s.toNat : Int) % 32 := by omega
  simp only [cn] at hv0 hv1 hv2
  have sv : (s % 32#32).toNat = s.toNat % 32 := by rw [BitVec.toNat_umod]; rfl
  rw [w_3f]
  rcases (by omega : k = 0 ∨ k = 1 ∨ k = 2 ∨ k = 3 ∨ k = 4 ∨ k = 5 ∨ k = 6 ∨ k = 7 ∨ k = 8 ∨ k = 9 ∨ k = 10 ∨ k = 11 ∨ k = 12 ∨ k = 13 ∨ k = 14 ∨ k = 15 ∨ k = 16 ∨ k = 17 ∨ k = 18 ∨ k = 19 ∨ k = 20 ∨ k = 21 ∨ k = 22 ∨ k = 23 ∨ k = 24 ∨ k = 25 ∨ k = 26 ∨ k = 27 ∨ k = 28 ∨ k = 29 ∨ k = 30 ∨ k = 31 ∨ k = 32 ∨ k = 33 ∨ k = 34 ∨ k = 35 ∨ k = 36 ∨ k = 37 ∨ k = 38 ∨ k = 39 ∨ k = 40 ∨ k = 41 ∨ k = 42 ∨ k = 43 ∨ k = 44 ∨ k = 45 ∨ k = 46 ∨ k = 47 ∨ k = 48 ∨ k = 49 ∨ k = 50 ∨ k = 51 ∨ k = 52 ∨ k = 53 ∨ k = 54 ∨ k = 55 ∨ k = 56 ∨ k = 57 ∨ k = 58 ∨ k = 59 ∨ k = 60 ∨ k = 61 ∨ k = 62 ∨ k = 63 ∨ k = 64 ∨ k = 65 ∨ k = 66 ∨ k = 67 ∨ k = 68 ∨ k = 69 ∨ k = 70 ∨ k = 71 ∨ k = 72 ∨ k = 73 ∨ k = 74 ∨ k = 75 ∨ k = 76 ∨ k = 77) with rfl | rfl | rfl | rfl | rfl | rfl | rfl | rfl | rfl | rfl | rfl | rfl | rfl | rfl | rfl | rfl | rfl | rfl | rfl | rfl | rfl | rfl | rfl | rfl | rfl | rfl | rfl | rfl | rfl | rfl | rfl | rfl | rfl | rfl | rfl | rfl | rfl | rfl | rfl | rfl | rfl | rfl | rfl | rfl | rfl | rfl | rfl | rfl | rfl | rfl | rfl | rfl | rfl | rfl | rfl | rfl | rfl | rfl | rfl | rfl | rfl | rfl | rfl | rfl | rfl | rfl | rfl | rfl | rfl | rfl | rfl | rfl | rfl | rfl | rfl | rfl | rfl | rfl
  · simp (maxSteps:=9^7)(disch:=first|assumption|((try simp only[nX]);omega)|simp) [encIns, GC_of (hsg _), xdo, iof, xop, lkd, lkTab, aIs, ximm]
  · simp (maxSteps:=9^7)(disch:=first|assumption|((try simp only[nX]);omega)|simp) [encIns, GC_of (hsg _), xdo, iof, xop, lkd, lkTab, aIs, ximm, GC_of (hs0 _), e33, em]
  · simp (maxSteps:=9^7)(disch:=first|assumption|((try simp only[nX]);omega)|simp) [encIns, GC_of (hsg _), xdo, iof, xop, lkd, lkTab, aIs, ximm, GC_of (hs1 _), e33, em]
  · simp (maxSteps:=9^7)(disch:=first|assumption|((try simp only[nX]);omega)|simp) [encIns, GC_of (hsg _), xdo, iof, xop, lkd, lkTab, aIs, ximm, GC_of (hs2 _), e33, em]
  · simp (maxSteps:=9^7)(disch:=first|assumption|((try simp only[nX]);omega)|simp) [encIns, GC_of (hsg _), xdo, iof, xop, lkd, lkTab, aIs, ximm, GC_of (hv0 _), sv]
  · simp (maxSteps:=9^7)(disch:=first|assumption|((try simp only[nX]);omega)|simp) [encIns, GC_of (hsg _), xdo, iof, xop, lkd, lkTab, aIs, ximm, GC_of (hv1 _), sv]
  · simp (maxSteps:=9^7)(disch:=first|assumption|((try simp only[nX]);omega)|simp) [encIns, GC_of (hsg _), xdo, iof, xop, lkd, lkTab, aIs, ximm, GC_of (hv2 _), sv]
  · simp (maxSteps:=9^7)(disch:=first|assumption|((try simp only[nX]);omega)|simp) [encIns, GC_of (hsg _), xdo, iof, xop, lkd, lkTab, aIs, ximm]
  · simp (maxSteps:=9^7)(disch:=first|assumption|((try simp only[nX]);omega)|simp) [encIns, GC_of (hsg _), xdo, iof, xop, lkd, lkTab, aIs, ximm]
  · simp (maxSteps:=9^7)(disch:=first|assumption|((try simp only[nX]);omega)|simp) [encIns, GC_of (hsg _), xdo, iof, xop, lkd, lkTab, aIs, ximm]
  · simp (maxSteps:=9^7)(disch:=first|assumption|((try simp only[nX]);omega)|simp) [encIns, GC_of (hsg _), xdo, iof, xop, lkd, lkTab, aIs, ximm]
  · simp (maxSteps:=9^7)(disch:=first|assumption|((try simp only[nX]);omega)|simp) [encIns, GC_of (hsg _), xdo, iof, xop, lkd, lkTab, aIs, ximm]
  · simp (maxSteps:=9^7)(disch:=first|assumption|((try simp only[nX]);omega)|simp) [encIns, GC_of (hsg _), xdo, iof, xop, lkd, lkTab, aIs, ximm]
  · simp (maxSteps:=9^7)(disch:=first|assumption|((try simp only[nX]);omega)|simp) [encIns, GC_of (hsg _), xdo, iof, xop, lkd, lkTab, aIs, ximm]
  · simp (maxSteps:=9^7)(disch:=first|assumption|((try simp only[nX]);omega)|simp) [encIns, GC_of (hsg _), xdo, iof, xop, lkd, lkTab, aIs, ximm]
  · simp (maxSteps:=9^7)(disch:=first|assumption|((try simp only[nX]);omega)|simp) [encIns, GC_of (hsg _), xdo, iof, xop, lkd, lkTab, aIs, ximm]
  · simp (maxSteps:=9^7)(disch:=first|assumption|((try simp only[nX]);omega)|simp) [encIns, GC_of (hsg _), xdo, iof, xop, lkd, lkTab, aIs, ximm]
  · simp (maxSteps:=9^7)(disch:=first|assumption|((try simp only[nX]);omega)|simp) [encIns, GC_of (hsg _), xdo, iof, xop, lkd, lkTab, aIs, ximm]
  · simp (maxSteps:=9^7)(disch:=first|assumption|((try simp only[nX]);omega)|simp) [encIns, GC_of (hsg _), xdo, iof, xop, lkd, lkTab, aIs, ximm]
  · simp (maxSteps:=9^7)(disch:=first|assumption|((try simp only[nX]);omega)|simp) [encIns, GC_of (hsg _), xdo, iof, xop, lkd, lkTab, aIs, ximm]
  · simp (maxSteps:=9^7)(disch:=first|assumption|((try simp only[nX]);omega)|simp) [encIns, GC_of (hsg _), xdo, iof, xop, lkd, lkTab, aIs, ximm]
  · simp (maxSteps:=9^7)(disch:=first|assumption|((try simp only[nX]);omega)|simp) [encIns, GC_of (hsg _), xdo, iof, xop, lkd, lkTab, aIs, ximm]
  · simp (maxSteps:=9^7)(disch:=first|assumption|((try simp only[nX]);omega)|simp) [encIns, GC_of (hsg _), xdo, iof, xop, lkd, lkTab, aIs, ximm]
  · simp (maxSteps:=9^7)(disch:=first|assumption|((try simp only[nX]);omega)|simp) [encIns, GC_of (hsg _), xdo, iof, xop, lkd, lkTab, aIs, ximm]
  · simp (maxSteps:=9^7)(disch:=first|assumption|((try simp only[nX]);omega)|simp) [encIns, GC_of (hsg _), xdo, iof, xop, lkd, lkTab, aIs, ximm]
  · simp (maxSteps:=9^7)(disch:=first|assumption|((try simp only[nX]);omega)|simp) [encIns, GC_of (hsg _), xdo, iof, xop, lkd, lkTab, aIs, ximm]
  · simp (maxSteps:=9^7)(disch:=first|assumption|((try simp only[nX]);omega)|simp) [encIns, GC_of (hsg _), xdo, iof, xop, lkd, lkTab, aIs, ximm]
  · simp (maxSteps:=9^7)(disch:=first|assumption|((try simp only[nX]);omega)|simp) [encIns, GC_of (hsg _), xdo, iof, xop, lkd, lkTab, aIs, ximm]
  · simp (maxSteps:=9^7)(disch:=first|assumption|((try simp only[nX]);omega)|simp) [encIns, GC_of (hsg _), xdo, iof, xop, lkd, lkTab, aIs, ximm]
  · simp (maxSteps:=9^7)(disch:=first|assumption|((try simp only[nX]);omega)|simp) [encIns, GC_of (hsg _), xdo, iof, xop, lkd, lkTab, aIs, ximm]
  · simp (maxSteps:=9^7)(disch:=first|assumption|((try simp only[nX]);omega)|simp) [encIns, GC_of (hsg _), xdo, iof, xop, lkd, lkTab, aIs, ximm, GC_of (fun q => hl _ q s t true), GC_of (fun q => hb _ q (less s t true))]
  · simp (maxSteps:=9^7)(disch:=first|assumption|((try simp only[nX]);omega)|simp) [encIns, GC_of (hsg _), xdo, iof, xop, lkd, lkTab, aIs, ximm, GC_of (fun q => hl _ q s t false), GC_of (fun q => hb _ q (less s t false))]
  · simp (maxSteps:=9^7)(disch:=first|assumption|((try simp only[nX]);omega)|simp) [encIns, GC_of (hsg _), xdo, iof, xop, lkd, lkTab, aIs, ximm]
  · simp (maxSteps:=9^7)(disch:=first|assumption|((try simp only[nX]);omega)|simp) [encIns, GC_of (hsg _), xdo, iof, xop, lkd, lkTab, aIs, ximm]
  · simp (maxSteps:=9^7)(disch:=first|assumption|((try simp only[nX]);omega)|simp) [encIns, GC_of (hsg _), xdo, iof, xop, lkd, lkTab, aIs, ximm]
  · simp (maxSteps:=9^7)(disch:=first|assumption|((try simp only[nX]);omega)|simp) [encIns, GC_of (hsg _), xdo, iof, xop, lkd, lkTab, aIs, ximm]
  · simp (maxSteps:=9^7)(disch:=first|assumption|((try simp only[nX]);omega)|simp) [encIns, GC_of (hsg _), xdo, iof, xop, lkd, lkTab, aIs, ximm]
  · simp (maxSteps:=9^7)(disch:=first|assumption|((try simp only[nX]);omega)|simp) [encIns, GC_of (hsg _), xdo, iof, xop, lkd, lkTab, aIs, ximm]
  · simp (maxSteps:=9^7)(disch:=first|assumption|((try simp only[nX]);omega)|simp) [encIns, GC_of (hsg _), xdo, iof, xop, lkd, lkTab, aIs, ximm]
  · simp (maxSteps:=9^7)(disch:=first|assumption|((try simp only[nX]);omega)|simp) [encIns, GC_of (hsg _), xdo, iof, xop, lkd, lkTab, aIs, ximm]
  · simp (maxSteps:=9^7)(disch:=first|assumption|((try simp only[nX]);omega)|simp) [encIns, GC_of (hsg _), xdo, iof, xop, lkd, lkTab, aIs, ximm]
  · simp (maxSteps:=9^7)(disch:=first|assumption|((try simp only[nX]);omega)|simp) [encIns, GC_of (hsg _), xdo, iof, xop, lkd, lkTab, aIs, ximm]
  · simp (maxSteps:=9^7)(disch:=first|assumption|((try simp only[nX]);omega)|simp) [encIns, GC_of (hsg _), xdo, iof, xop, lkd, lkTab, aIs, ximm]
  · simp (maxSteps:=9^7)(disch:=first|assumption|((try simp only[nX]);omega)|simp) [encIns, GC_of (hsg _), xdo, iof, xop, lkd, lkTab, aIs, ximm]
  · simp (maxSteps:=9^7)(disch:=first|assumption|((try simp only[nX]);omega)|simp) [encIns, GC_of (hsg _), xdo, iof, xop, lkd, lkTab, aIs, ximm]
  · simp (maxSteps:=9^7)(disch:=first|assumption|((try simp only[nX]);omega)|simp) [encIns, GC_of (hsg _), xdo, iof, xop, lkd, lkTab, aIs, ximm]
  · simp (maxSteps:=9^7)(disch:=first|assumption|((try simp only[nX]);omega)|simp) [encIns, GC_of (hsg _), xdo, iof, xop, lkd, lkTab, aIs, ximm]
  · simp (maxSteps:=9^7)(disch:=first|assumption|((try simp only[nX]);omega)|simp) [encIns, GC_of (hsg _), xdo, iof, xop, lkd, lkTab, aIs, ximm]
  · simp (maxSteps:=9^7)(disch:=first|assumption|((try simp only[nX]);omega)|simp) [encIns, GC_of (hsg _), xdo, iof, xop, lkd, lkTab, aIs, ximm, GC_of (fun q => hl _ q s (sxt im) true), GC_of (fun q => hb _ q (less s (sxt im) true))]
  · simp (maxSteps:=9^7)(disch:=first|assumption|((try simp only[nX]);omega)|simp) [encIns, GC_of (hsg _), xdo, iof, xop, lkd, lkTab, aIs, ximm, GC_of (fun q => hl _ q s (sxt im) false), GC_of (fun q => hb _ q (less s (sxt im) false))]
  · simp (maxSteps:=9^7)(disch:=first|assumption|((try simp only[nX]);omega)|simp) [encIns, GC_of (hsg _), xdo, iof, xop, lkd, lkTab, aIs, ximm]
  · simp (maxSteps:=9^7)(disch:=first|assumption|((try simp only[nX]);omega)|simp) [encIns, GC_of (hsg _), xdo, iof, xop, lkd, lkTab, aIs, ximm]
  · simp (maxSteps:=9^7)(disch:=first|assumption|((try simp only[nX]);omega)|simp) [encIns, GC_of (hsg _), xdo, iof, xop, lkd, lkTab, aIs, ximm]
  · simp (maxSteps:=9^7)(disch:=first|assumption|((try simp only[nX]);omega)|simp) [encIns, GC_of (hsg _), xdo, iof, xop, lkd, lkTab, aIs, ximm, lui]
  · simp (maxSteps:=9^7)(disch:=first|assumption|((try simp only[nX]);omega)|simp) [encIns, GC_of (hsg _), xdo, iof, xop, lkd, lkTab, aIs, ximm]
  · simp (maxSteps:=9^7)(disch:=first|assumption|((try simp only[nX]);omega)|simp) [encIns, GC_of (hsg _), xdo, iof, xop, lkd, lkTab, aIs, ximm]
  · simp (maxSteps:=9^7)(disch:=first|assumption|((try simp only[nX]);omega)|simp) [encIns, GC_of (hsg _), xdo, iof, xop, lkd, lkTab, aIs, ximm]
  · simp (maxSteps:=9^7)(disch:=first|assumption|((try simp only[nX]);omega)|simp) [encIns, GC_of (hsg _), xdo, iof, xop, lkd, lkTab, aIs, ximm]
  · simp (maxSteps:=9^7)(disch:=first|assumption|((try simp only[nX]);omega)|simp) [encIns, GC_of (hsg _), xdo, iof, xop, lkd, lkTab, aIs, ximm]
  · simp (maxSteps:=9^7)(disch:=first|assumption|((try simp only[nX]);omega)|simp) [encIns, GC_of (hsg _), xdo, iof, xop, lkd, lkTab, aIs, ximm]
  · simp (maxSteps:=9^7)(disch:=first|assumption|((try simp only[nX]);omega)|simp) [encIns, GC_of (hsg _), xdo, iof, xop, lkd, lkTab, aIs, ximm]
  · simp (maxSteps:=9^7)(disch:=first|assumption|((try simp only[nX]);omega)|simp) [encIns, GC_of (hsg _), xdo, iof, xop, lkd, lkTab, aIs, ximm]
  · simp (maxSteps:=9^7)(disch:=first|assumption|((try simp only[nX]);omega)|simp) [encIns, GC_of (hsg _), xdo, iof, xop, lkd, lkTab, aIs, ximm]
  · simp (maxSteps:=9^7)(disch:=first|assumption|((try simp only[nX]);omega)|simp) [encIns, GC_of (hsg _), xdo, iof, xop, lkd, lkTab, aIs, ximm, GC_of (hmu _)]
  · simp (maxSteps:=9^7)(disch:=first|assumption|((try simp only[nX]);omega)|simp) [encIns, GC_of (hsg _), xdo, iof, xop, lkd, lkTab, aIs, ximm, GC_of (hcz _)]
  · simp (maxSteps:=9^7)(disch:=first|assumption|((try simp only[nX]);omega)|simp) [encIns, GC_of (hsg _), xdo, iof, xop, lkd, lkTab, aIs, ximm, GC_of (hco _)]
  · simp (maxSteps:=9^7)(disch:=first|assumption|((try simp only[nX]);omega)|simp) [encIns, GC_of (hsg _), xdo, iof, xop, lkd, lkTab, aIs, ximm]
  · simp (maxSteps:=9^7)(disch:=first|assumption|((try simp only[nX]);omega)|simp) [encIns, GC_of (hsg _), xdo, iof, xop, lkd, lkTab, aIs, ximm]
  · simp (maxSteps:=9^7)(disch:=first|assumption|((try simp only[nX]);omega)|simp) [encIns, GC_of (hsg _), xdo, iof, xop, lkd, lkTab, aIs, ximm]
  · simp (maxSteps:=9^7)(disch:=first|assumption|((try simp only[nX]);omega)|simp) [encIns, GC_of (hsg _), xdo, iof, xop, lkd, lkTab, aIs, ximm]
  · simp (maxSteps:=9^7)(disch:=first|assumption|((try simp only[nX]);omega)|simp) [encIns, GC_of (hsg _), xdo, iof, xop, lkd, lkTab, aIs, ximm]
  · simp (maxSteps:=9^7)(disch:=first|assumption|((try simp only[nX]);omega)|simp) [encIns, GC_of (hsg _), xdo, iof, xop, lkd, lkTab, aIs, ximm]
  · simp (maxSteps:=9^7)(disch:=first|assumption|((try simp only[nX]);omega)|simp) [encIns, GC_of (hsg _), xdo, iof, xop, lkd, lkTab, aIs, ximm]
  · simp (maxSteps:=9^7)(disch:=first|assumption|((try simp only[nX]);omega)|simp) [encIns, GC_of (hsg _), xdo, iof, xop, lkd, lkTab, aIs, ximm]
  · simp (maxSteps:=9^7)(disch:=first|assumption|((try simp only[nX]);omega)|simp) [encIns, GC_of (hsg _), xdo, iof, xop, lkd, lkTab, aIs, ximm]
  · simp (maxSteps:=9^7)(disch:=first|assumption|((try simp only[nX]);omega)|simp) [encIns, GC_of (hsg _), xdo, iof, xop, lkd, lkTab, aIs, ximm]
  · simp (maxSteps:=9^7)(disch:=first|assumption|((try simp only[nX]);omega)|simp) [encIns, GC_of (hsg _), xdo, iof, xop, lkd, lkTab, aIs, ximm]
  · simp (maxSteps:=9^7)(disch:=first|assumption|((try simp only[nX]);omega)|simp) [encIns, GC_of (hsg _), xdo, iof, xop, lkd, lkTab, aIs, ximm]
end
end Go.Proofs.YtmgoleiafiffoaaGreat.Cd

/- The document's reckoning: classes, branches, halves. -/
set_option maxRecDepth 1000000
set_option maxHeartbeats 8000000
set_option linter.unusedSimpArgs false
set_option linter.unusedVariables false
namespace Go.Proofs.YtmgoleiafiffoaaGreat.Cd
open Go Go.Dx
section
variable {h : Hp} {q : Value → Hp → Prop} {v s t hi lo pc : BitVec 32} {i : Ins} {a b d sh : Int} {m : BitVec 32}
theorem r3_classN {n : Nat} (hn : n < 78) : WC T n_33 [.agg (encIns.enc ⟨n, a, b, d, sh, m⟩).toArray] h q ↔ q (.int .i64 (dcls n)) (h.push (.cells false (encIns.enc ⟨n, a, b, d, sh, m⟩))) := by
  rw [w_33]
  rcases (by omega : n = 0 ∨ n = 1 ∨ n = 2 ∨ n = 3 ∨ n = 4 ∨ n = 5 ∨ n = 6 ∨ n = 7 ∨ n = 8 ∨ n = 9 ∨ n = 10 ∨ n = 11 ∨ n = 12 ∨ n = 13 ∨ n = 14 ∨ n = 15 ∨ n = 16 ∨ n = 17 ∨ n = 18 ∨ n = 19 ∨ n = 20 ∨ n = 21 ∨ n = 22 ∨ n = 23 ∨ n = 24 ∨ n = 25 ∨ n = 26 ∨ n = 27 ∨ n = 28 ∨ n = 29 ∨ n = 30 ∨ n = 31 ∨ n = 32 ∨ n = 33 ∨ n = 34 ∨ n = 35 ∨ n = 36 ∨ n = 37 ∨ n = 38 ∨ n = 39 ∨ n = 40 ∨ n = 41 ∨ n = 42 ∨ n = 43 ∨ n = 44 ∨ n = 45 ∨ n = 46 ∨ n = 47 ∨ n = 48 ∨ n = 49 ∨ n = 50 ∨ n = 51 ∨ n = 52 ∨ n = 53 ∨ n = 54 ∨ n = 55 ∨ n = 56 ∨ n = 57 ∨ n = 58 ∨ n = 59 ∨ n = 60 ∨ n = 61 ∨ n = 62 ∨ n = 63 ∨ n = 64 ∨ n = 65 ∨ n = 66 ∨ n = 67 ∨ n = 68 ∨ n = 69 ∨ n = 70 ∨ n = 71 ∨ n = 72 ∨ n = 73 ∨ n = 74 ∨ n = 75 ∨ n = 76 ∨ n = 77) with rfl | rfl | rfl | rfl | rfl | rfl | rfl | rfl | rfl | rfl | rfl | rfl | rfl | rfl | rfl | rfl | rfl | rfl | rfl | rfl | rfl | rfl | rfl | rfl | rfl | rfl | rfl | rfl | rfl | rfl | rfl | rfl | rfl | rfl | rfl | rfl | rfl | rfl | rfl | rfl | rfl | rfl | rfl | rfl | rfl | rfl | rfl | rfl | rfl | rfl | rfl | rfl | rfl | rfl | rfl | rfl | rfl | rfl | rfl | rfl | rfl | rfl | rfl | rfl | rfl | rfl | rfl | rfl | rfl | rfl | rfl | rfl | rfl | rfl | rfl | rfl | rfl | rfl <;> simp (maxSteps:=9^7)(disch:=first|assumption|((try simp only[nX]);omega)|simp) [encIns, dcls, clTab]
theorem r3_class (hk : 0 ≤ i.k ∧ i.k ≤ 77) : WC T n_33 [.agg (encIns.enc i).toArray] h q ↔ q (.int .i64 (dcls i.k)) (h.push (.cells false (encIns.enc i))) := by
  obtain ⟨k, s, t, d, sh, m⟩ := i
  obtain ⟨n, rfl⟩ : ∃ n : Nat, k = n := ⟨k.toNat, by simp at hk; omega⟩
  exact r3_classN (by simp at hk; omega)
theorem r4_takenN {n : Nat} (hn : n < 78) : WC T n_3k [.agg (encIns.enc ⟨n, a, b, d, sh, m⟩).toArray, u32 s, u32 t] h q ↔ q (.bool (xtaken ⟨n, a, b, d, sh, m⟩ s t)) (h.push (.cells false (encIns.enc ⟨n, a, b, d, sh, m⟩))) := by
  have e1 : ∀ x y : BitVec 32, (x == y) = decide (x = y) := fun x y => rfl
  have e2 : ∀ x y : BitVec 32, (x != y) = !decide (x = y) := fun x y => rfl
  rw [w_3k]
  by_cases c1 : 2147483648#32 ≤ s
  · rcases (by omega : n = 0 ∨ n = 1 ∨ n = 2 ∨ n = 3 ∨ n = 4 ∨ n = 5 ∨ n = 6 ∨ n = 7 ∨ n = 8 ∨ n = 9 ∨ n = 10 ∨ n = 11 ∨ n = 12 ∨ n = 13 ∨ n = 14 ∨ n = 15 ∨ n = 16 ∨ n = 17 ∨ n = 18 ∨ n = 19 ∨ n = 20 ∨ n = 21 ∨ n = 22 ∨ n = 23 ∨ n = 24 ∨ n = 25 ∨ n = 26 ∨ n = 27 ∨ n = 28 ∨ n = 29 ∨ n = 30 ∨ n = 31 ∨ n = 32 ∨ n = 33 ∨ n = 34 ∨ n = 35 ∨ n = 36 ∨ n = 37 ∨ n = 38 ∨ n = 39 ∨ n = 40 ∨ n = 41 ∨ n = 42 ∨ n = 43 ∨ n = 44 ∨ n = 45 ∨ n = 46 ∨ n = 47 ∨ n = 48 ∨ n = 49 ∨ n = 50 ∨ n = 51 ∨ n = 52 ∨ n = 53 ∨ n = 54 ∨ n = 55 ∨ n = 56 ∨ n = 57 ∨ n = 58 ∨ n = 59 ∨ n = 60 ∨ n = 61 ∨ n = 62 ∨ n = 63 ∨ n = 64 ∨ n = 65 ∨ n = 66 ∨ n = 67 ∨ n = 68 ∨ n = 69 ∨ n = 70 ∨ n = 71 ∨ n = 72 ∨ n = 73 ∨ n = 74 ∨ n = 75 ∨ n = 76 ∨ n = 77) with rfl | rfl | rfl | rfl | rfl | rfl | rfl | rfl | rfl | rfl | rfl | rfl | rfl | rfl | rfl | rfl | rfl | rfl | rfl | rfl | rfl | rfl | rfl | rfl | rfl | rfl | rfl | rfl | rfl | rfl | rfl | rfl | rfl | rfl | rfl | rfl | rfl | rfl | rfl | rfl | rfl | rfl | rfl | rfl | rfl | rfl | rfl | rfl | rfl | rfl | rfl | rfl | rfl | rfl | rfl | rfl | rfl | rfl | rfl | rfl | rfl | rfl | rfl | rfl | rfl | rfl | rfl | rfl | rfl | rfl | rfl | rfl | rfl | rfl | rfl | rfl | rfl | rfl <;> simp (maxSteps:=9^7)(disch:=first|assumption|((try simp only[nX]);omega)|simp) [encIns, xtaken, c1, e1, e2]
  · by_cases c2 : s = 0#32
    · rcases (by omega : n = 0 ∨ n = 1 ∨ n = 2 ∨ n = 3 ∨ n = 4 ∨ n = 5 ∨ n = 6 ∨ n = 7 ∨ n = 8 ∨ n = 9 ∨ n = 10 ∨ n = 11 ∨ n = 12 ∨ n = 13 ∨ n = 14 ∨ n = 15 ∨ n = 16 ∨ n = 17 ∨ n = 18 ∨ n = 19 ∨ n = 20 ∨ n = 21 ∨ n = 22 ∨ n = 23 ∨ n = 24 ∨ n = 25 ∨ n = 26 ∨ n = 27 ∨ n = 28 ∨ n = 29 ∨ n = 30 ∨ n = 31 ∨ n = 32 ∨ n = 33 ∨ n = 34 ∨ n = 35 ∨ n = 36 ∨ n = 37 ∨ n = 38 ∨ n = 39 ∨ n = 40 ∨ n = 41 ∨ n = 42 ∨ n = 43 ∨ n = 44 ∨ n = 45 ∨ n = 46 ∨ n = 47 ∨ n = 48 ∨ n = 49 ∨ n = 50 ∨ n = 51 ∨ n = 52 ∨ n = 53 ∨ n = 54 ∨ n = 55 ∨ n = 56 ∨ n = 57 ∨ n = 58 ∨ n = 59 ∨ n = 60 ∨ n = 61 ∨ n = 62 ∨ n = 63 ∨ n = 64 ∨ n = 65 ∨ n = 66 ∨ n = 67 ∨ n = 68 ∨ n = 69 ∨ n = 70 ∨ n = 71 ∨ n = 72 ∨ n = 73 ∨ n = 74 ∨ n = 75 ∨ n = 76 ∨ n = 77) with rfl | rfl | rfl | rfl | rfl | rfl | rfl | rfl | rfl | rfl | rfl | rfl | rfl | rfl | rfl | rfl | rfl | rfl | rfl | rfl | rfl | rfl | rfl | rfl | rfl | rfl | rfl | rfl | rfl | rfl | rfl | rfl | rfl | rfl | rfl | rfl | rfl | rfl | rfl | rfl | rfl | rfl | rfl | rfl | rfl | rfl | rfl | rfl | rfl | rfl | rfl | rfl | rfl | rfl | rfl | rfl | rfl | rfl | rfl | rfl | rfl | rfl | rfl | rfl | rfl | rfl | rfl | rfl | rfl | rfl | rfl | rfl | rfl | rfl | rfl | rfl | rfl | rfl <;> simp (maxSteps:=9^7)(disch:=first|assumption|((try simp only[nX]);omega)|simp) [encIns, xtaken, c1, c2, e1, e2]
    · rcases (by omega : n = 0 ∨ n = 1 ∨ n = 2 ∨ n = 3 ∨ n = 4 ∨ n = 5 ∨ n = 6 ∨ n = 7 ∨ n = 8 ∨ n = 9 ∨ n = 10 ∨ n = 11 ∨ n = 12 ∨ n = 13 ∨ n = 14 ∨ n = 15 ∨ n = 16 ∨ n = 17 ∨ n = 18 ∨ n = 19 ∨ n = 20 ∨ n = 21 ∨ n = 22 ∨ n = 23 ∨ n = 24 ∨ n = 25 ∨ n = 26 ∨ n = 27 ∨ n = 28 ∨ n = 29 ∨ n = 30 ∨ n = 31 ∨ n = 32 ∨ n = 33 ∨ n = 34 ∨ n = 35 ∨ n = 36 ∨ n = 37 ∨ n = 38 ∨ n = 39 ∨ n = 40 ∨ n = 41 ∨ n = 42 ∨ n = 43 ∨ n = 44 ∨ n = 45 ∨ n = 46 ∨ n = 47 ∨ n = 48 ∨ n = 49 ∨ n = 50 ∨ n = 51 ∨ n = 52 ∨ n = 53 ∨ n = 54 ∨ n = 55 ∨ n = 56 ∨ n = 57 ∨ n = 58 ∨ n = 59 ∨ n = 60 ∨ n = 61 ∨ n = 62 ∨ n = 63 ∨ n = 64 ∨ n = 65 ∨ n = 66 ∨ n = 67 ∨ n = 68 ∨ n = 69 ∨ n = 70 ∨ n = 71 ∨ n = 72 ∨ n = 73 ∨ n = 74 ∨ n = 75 ∨ n = 76 ∨ n = 77) with rfl | rfl | rfl | rfl | rfl | rfl | rfl | rfl | rfl | rfl | rfl | rfl | rfl | rfl | rfl | rfl | rfl | rfl | rfl | rfl | rfl | rfl | rfl | rfl | rfl | rfl | rfl | rfl | rfl | rfl | rfl | rfl | rfl | rfl | rfl | rfl | rfl | rfl | rfl | rfl | rfl | rfl | rfl | rfl | rfl | rfl | rfl | rfl | rfl | rfl | rfl | rfl | rfl | rfl | rfl | rfl | rfl | rfl | rfl | rfl | rfl | rfl | rfl | rfl | rfl | rfl | rfl | rfl | rfl | rfl | rfl | rfl | rfl | rfl | rfl | rfl | rfl | rfl <;> simp (maxSteps:=9^7)(disch:=first|assumption|((try simp only[nX]);omega)|simp) [encIns, xtaken, c1, c2, e1, e2]
theorem r4_taken (hk : 0 ≤ i.k ∧ i.k ≤ 77) : WC T n_3k [.agg (encIns.enc i).toArray, u32 s, u32 t] h q ↔ q (.bool (xtaken i s t)) (h.push (.cells false (encIns.enc i))) := by
  obtain ⟨k, a, b, d, sh, m⟩ := i
  obtain ⟨n, rfl⟩ : ∃ n : Nat, k = n := ⟨k.toNat, by simp at hk; omega⟩
  exact r4_takenN (by simp at hk; omega)
theorem r4_linksN {n : Nat} (hn : n < 78) : WC T n_3j [.agg (encIns.enc ⟨n, a, b, d, sh, m⟩).toArray] h q ↔ q (.tuple #[.int .i64 (xlink ⟨n, a, b, d, sh, m⟩), .bool (xlinks ⟨n, a, b, d, sh, m⟩)]) (h.push (.cells false (encIns.enc ⟨n, a, b, d, sh, m⟩))) := by
  rw [w_3j]
  rcases (by omega : n = 0 ∨ n = 1 ∨ n = 2 ∨ n = 3 ∨ n = 4 ∨ n = 5 ∨ n = 6 ∨ n = 7 ∨ n = 8 ∨ n = 9 ∨ n = 10 ∨ n = 11 ∨ n = 12 ∨ n = 13 ∨ n = 14 ∨ n = 15 ∨ n = 16 ∨ n = 17 ∨ n = 18 ∨ n = 19 ∨ n = 20 ∨ n = 21 ∨ n = 22 ∨ n = 23 ∨ n = 24 ∨ n = 25 ∨ n = 26 ∨ n = 27 ∨ n = 28 ∨ n = 29 ∨ n = 30 ∨ n = 31 ∨ n = 32 ∨ n = 33 ∨ n = 34 ∨ n = 35 ∨ n = 36 ∨ n = 37 ∨ n = 38 ∨ n = 39 ∨ n = 40 ∨ n = 41 ∨ n = 42 ∨ n = 43 ∨ n = 44 ∨ n = 45 ∨ n = 46 ∨ n = 47 ∨ n = 48 ∨ n = 49 ∨ n = 50 ∨ n = 51 ∨ n = 52 ∨ n = 53 ∨ n = 54 ∨ n = 55 ∨ n = 56 ∨ n = 57 ∨ n = 58 ∨ n = 59 ∨ n = 60 ∨ n = 61 ∨ n = 62 ∨ n = 63 ∨ n = 64 ∨ n = 65 ∨ n = 66 ∨ n = 67 ∨ n = 68 ∨ n = 69 ∨ n = 70 ∨ n = 71 ∨ n = 72 ∨ n = 73 ∨ n = 74 ∨ n = 75 ∨ n = 76 ∨ n = 77) with rfl | rfl | rfl | rfl | rfl | rfl | rfl | rfl | rfl | rfl | rfl | rfl | rfl | rfl | rfl | rfl | rfl | rfl | rfl | rfl | rfl | rfl | rfl | rfl | rfl | rfl | rfl | rfl | rfl | rfl | rfl | rfl | rfl | rfl | rfl | rfl | rfl | rfl | rfl | rfl | rfl | rfl | rfl | rfl | rfl | rfl | rfl | rfl | rfl | rfl | rfl | rfl | rfl | rfl | rfl | rfl | rfl | rfl | rfl | rfl | rfl | rfl | rfl | rfl | rfl | rfl | rfl | rfl | rfl | rfl | rfl | rfl | rfl | rfl | rfl | rfl | rfl | rfl <;> simp (maxSteps:=9^7)(disch:=first|assumption|((try simp only[nX]);omega)|simp) [encIns, xlink, xlinks]
theorem r4_links (hk : 0 ≤ i.k ∧ i.k ≤ 77) : WC T n_3j [.agg (encIns.enc i).toArray] h q ↔ q (.tuple #[.int .i64 (xlink i), .bool (xlinks i)]) (h.push (.cells false (encIns.enc i))) := by
  obtain ⟨k, a, b, d, sh, m⟩ := i
  obtain ⟨n, rfl⟩ : ∃ n : Nat, k = n := ⟨k.toNat, by simp at hk; omega⟩
  exact r4_linksN (by simp at hk; omega)
theorem r4_targetN {n : Nat} (hn : n < 78) : WC T n_3l [.agg (encIns.enc ⟨n, a, b, d, sh, m⟩).toArray, u32 pc, u32 s] h q ↔ q (u32 (xtarget ⟨n, a, b, d, sh, m⟩ pc s)) (h.push (.cells false (encIns.enc ⟨n, a, b, d, sh, m⟩))) := by
  have hsg := fun h q => r_sign (h := h) (q := q) (v := m)
  rw [w_3l]
  rcases (by omega : n = 0 ∨ n = 1 ∨ n = 2 ∨ n = 3 ∨ n = 4 ∨ n = 5 ∨ n = 6 ∨ n = 7 ∨ n = 8 ∨ n = 9 ∨ n = 10 ∨ n = 11 ∨ n = 12 ∨ n = 13 ∨ n = 14 ∨ n = 15 ∨ n = 16 ∨ n = 17 ∨ n = 18 ∨ n = 19 ∨ n = 20 ∨ n = 21 ∨ n = 22 ∨ n = 23 ∨ n = 24 ∨ n = 25 ∨ n = 26 ∨ n = 27 ∨ n = 28 ∨ n = 29 ∨ n = 30 ∨ n = 31 ∨ n = 32 ∨ n = 33 ∨ n = 34 ∨ n = 35 ∨ n = 36 ∨ n = 37 ∨ n = 38 ∨ n = 39 ∨ n = 40 ∨ n = 41 ∨ n = 42 ∨ n = 43 ∨ n = 44 ∨ n = 45 ∨ n = 46 ∨ n = 47 ∨ n = 48 ∨ n = 49 ∨ n = 50 ∨ n = 51 ∨ n = 52 ∨ n = 53 ∨ n = 54 ∨ n = 55 ∨ n = 56 ∨ n = 57 ∨ n = 58 ∨ n = 59 ∨ n = 60 ∨ n = 61 ∨ n = 62 ∨ n = 63 ∨ n = 64 ∨ n = 65 ∨ n = 66 ∨ n = 67 ∨ n = 68 ∨ n = 69 ∨ n = 70 ∨ n = 71 ∨ n = 72 ∨ n = 73 ∨ n = 74 ∨ n = 75 ∨ n = 76 ∨ n = 77) with rfl | rfl | rfl | rfl | rfl | rfl | rfl | rfl | rfl | rfl | rfl | rfl | rfl | rfl | rfl | rfl | rfl | rfl | rfl | rfl | rfl | rfl | rfl | rfl | rfl | rfl | rfl | rfl | rfl | rfl | rfl | rfl | rfl | rfl | rfl | rfl | rfl | rfl | rfl | rfl | rfl | rfl | rfl | rfl | rfl | rfl | rfl | rfl | rfl | rfl | rfl | rfl | rfl | rfl | rfl | rfl | rfl | rfl | rfl | rfl | rfl | rfl | rfl | rfl | rfl | rfl | rfl | rfl | rfl | rfl | rfl | rfl | rfl | rfl | rfl | rfl | rfl | rfl <;> simp (maxSteps:=9^7)(disch:=first|assumption|((try simp only[nX]);omega)|simp) [encIns, xtarget, GC_of (hsg _)]
theorem r4_target (hk : 0 ≤ i.k ∧ i.k ≤ 77) : WC T n_3l [.agg (encIns.enc i).toArray, u32 pc, u32 s] h q ↔ q (u32 (xtarget i pc s)) (h.push (.cells false (encIns.enc i))) := by
  obtain ⟨k, a, b, d, sh, m⟩ := i
  obtain ⟨n, rfl⟩ : ∃ n : Nat, k = n := ⟨k.toNat, by simp at hk; omega⟩
  exact r4_targetN (by simp at hk; omega)
theorem r4_halvesN {n : Nat} (hn : n < 78) : WC T n_3g [.agg (encIns.enc ⟨n, a, b, d, sh, m⟩).toArray, u32 s, u32 t, u32 hi, u32 lo] h q ↔ q (.tuple #[u32 (xhi ⟨n, a, b, d, sh, m⟩ s t hi), u32 (xlo ⟨n, a, b, d, sh, m⟩ s t lo), .bool (xhb n)]) (h.push (.cells false (encIns.enc ⟨n, a, b, d, sh, m⟩))) := by
  have hmu := fun h q x => ref_mul (h := h) (q := q) (a := s) (b := t) (s := x)
  have hdi := fun h q x => ref_div (h := h) (q := q) (a := s) (b := t) (s := x)
  rw [w_3g]
  rcases (by omega : n = 0 ∨ n = 1 ∨ n = 2 ∨ n = 3 ∨ n = 4 ∨ n = 5 ∨ n = 6 ∨ n = 7 ∨ n = 8 ∨ n = 9 ∨ n = 10 ∨ n = 11 ∨ n = 12 ∨ n = 13 ∨ n = 14 ∨ n = 15 ∨ n = 16 ∨ n = 17 ∨ n = 18 ∨ n = 19 ∨ n = 20 ∨ n = 21 ∨ n = 22 ∨ n = 23 ∨ n = 24 ∨ n = 25 ∨ n = 26 ∨ n = 27 ∨ n = 28 ∨ n = 29 ∨ n = 30 ∨ n = 31 ∨ n = 32 ∨ n = 33 ∨ n = 34 ∨ n = 35 ∨ n = 36 ∨ n = 37 ∨ n = 38 ∨ n = 39 ∨ n = 40 ∨ n = 41 ∨ n = 42 ∨ n = 43 ∨ n = 44 ∨ n = 45 ∨ n = 46 ∨ n = 47 ∨ n = 48 ∨ n = 49 ∨ n = 50 ∨ n = 51 ∨ n = 52 ∨ n = 53 ∨ n = 54 ∨ n = 55 ∨ n = 56 ∨ n = 57 ∨ n = 58 ∨ n = 59 ∨ n = 60 ∨ n = 61 ∨ n = 62 ∨ n = 63 ∨ n = 64 ∨ n = 65 ∨ n = 66 ∨ n = 67 ∨ n = 68 ∨ n = 69 ∨ n = 70 ∨ n = 71 ∨ n = 72 ∨ n = 73 ∨ n = 74 ∨ n = 75 ∨ n = 76 ∨ n = 77) with rfl | rfl | rfl | rfl | rfl | rfl | rfl | rfl | rfl | rfl | rfl | rfl | rfl | rfl | rfl | rfl | rfl | rfl | rfl | rfl | rfl | rfl | rfl | rfl | rfl | rfl | rfl | rfl | rfl | rfl | rfl | rfl | rfl | rfl | rfl | rfl | rfl | rfl | rfl | rfl | rfl | rfl | rfl | rfl | rfl | rfl | rfl | rfl | rfl | rfl | rfl | rfl | rfl | rfl | rfl | rfl | rfl | rfl | rfl | rfl | rfl | rfl | rfl | rfl | rfl | rfl | rfl | rfl | rfl | rfl | rfl | rfl | rfl | rfl | rfl | rfl | rfl | rfl <;> simp (maxSteps:=9^7)(disch:=first|assumption|((try simp only[nX]);omega)|simp) [encIns, xhi, xlo, xhb, GC_of (fun q => hmu _ q true), GC_of (fun q => hmu _ q false), GC_of (fun q => hdi _ q true), GC_of (fun q => hdi _ q false)]
theorem r4_halves (hk : 0 ≤ i.k ∧ i.k ≤ 77) : WC T n_3g [.agg (encIns.enc i).toArray, u32 s, u32 t, u32 hi, u32 lo] h q ↔ q (.tuple #[u32 (xhi i s t hi), u32 (xlo i s t lo), .bool (xhb i.k)]) (h.push (.cells false (encIns.enc i))) := by
  obtain ⟨k, a, b, d, sh, m⟩ := i
  obtain ⟨n, rfl⟩ : ∃ n : Nat, k = n := ⟨k.toNat, by simp at hk; omega⟩
  exact r4_halvesN (by simp at hk; omega)
/-- Those that only reckon meet no trap. -/
theorem r4_traps1 (hk : 0 ≤ i.k ∧ i.k ≤ 77) (hc : dcls i.k = 1) : WC T n_3m [.agg (encIns.enc i).toArray, u32 s, u32 t] h q ↔ q (.bool false) (h.push (.cells false (encIns.enc i))) := by
  have n1 : ¬ i.k = 22 := fun hh => by rw [hh] at hc; revert hc; decide
  have n2 : ¬ i.k = 24 := fun hh => by rw [hh] at hc; revert hc; decide
  have n3 : ¬ i.k = 46 := fun hh => by rw [hh] at hc; revert hc; decide
  have n4 : ¬ i.k = 32 := fun hh => by rw [hh] at hc; revert hc; decide
  have n5 : ¬ i.k = 33 := fun hh => by rw [hh] at hc; revert hc; decide
  have n6 : ¬ i.k = 34 := fun hh => by rw [hh] at hc; revert hc; decide
  have n7 : ¬ i.k = 35 := fun hh => by rw [hh] at hc; revert hc; decide
  rw [w_3m]
  simp (maxSteps:=9^7)(disch:=first|assumption|((try simp only[nX]);omega)|simp) [encIns, n1, n2, n3, n4, n5, n6, n7]
end
end Go.Proofs.YtmgoleiafiffoaaGreat.Cd

/- lift: the operations of an instruction. -/
set_option maxRecDepth 1000000
set_option maxHeartbeats 8000000
set_option linter.unusedSimpArgs false
set_option linter.unusedVariables false
namespace Go.Proofs.YtmgoleiafiffoaaGreat.Cd
open Go Go.Dx
theorem sees_new {α : Type} {E : Enc α} {h : Hp} {b : Nat} {ro : Bool} {xs : List α} {C : List Value} (hg : h.get b = some (.cells ro C)) (hC : C = E.all xs) : Sees E h (some ⟨b, 0, none⟩) xs := by
  subst hC
  exact ⟨fun hA => (by cases hA), fun A hA => by cases hA; exact rdn_all hg (by simp), fun A hA => by cases hA; exact .inl rfl⟩
section
variable {h h' : Hp} {q : Value → Hp → Prop} {w : BitVec 32} {i : Ins}
theorem lift_of : WC T n_0u [.agg (encIns.enc (dOf w)).toArray] h fun v h' => (∃ a c, v = .slice a (lops (dOf w)).length c ∧ Sees encOp h' a (lops (dOf w))) ∧ Kp h h' := by
  obtain ⟨hk, hs, ht, hd, hh, hm⟩ := dOf_bd w
  have hI := fun h => lift_is (h := h) (w := w)
  generalize dOf w = i at *
  have hki := fun h q => lift_kind (h := h) (q := q) hk
  have hin := fun h q => alu_into (h := h) (q := q) hk
  have him := fun h q => lift_imm (h := h) (q := q) (i := i)
  obtain ⟨k, s, t, d, sh, m⟩ := i
  simp only at hk hs ht hd hh hm hI hki hin
  simp only [encIns] at hI hin him
  rw [w_0u]
  simp (maxSteps:=9^7)(disch:=first|assumption|((try simp only[nX]);omega)|simp) [encIns]
  refine GC_intro (hI _) fun v h1 ⟨hv, K1⟩ => ?_
  subst hv
  have g1 : h1.get h.next = some (.cells false [.int .i64 k, .int .i64 s, .int .i64 t, .int .i64 d, .int .i64 sh, u32 m]) := by
    rw [K1.get h.next (by simp)]
    simp (maxSteps:=9^7)(disch:=first|assumption|((try simp only[nX]);omega)|simp) []
  have r1 := rdn_all (n := 6) g1 rfl
  have K0 : Kp h h1 := Kp.trans (by simp (maxSteps:=9^7)(disch:=first|assumption|((try simp only[nX]);omega)|simp) []) K1
  have lt1 := lt_of_get g1
  clear K1 hI
  have none : ∀ k' : Int, k' = k → (k = 0 ∨ dcls k ≠ 1 ∨ k = 13 ∨ k = 76 ∨ k = 77) → (∃ a c, (Value.slice none 0 0) = .slice a (lops ⟨k, s, t, d, sh, m⟩).length c ∧ Sees encOp h1 a (lops ⟨k, s, t, d, sh, m⟩)) ∧ Kp h h1 := fun k' _ hc => by
    have : lops ⟨k, s, t, d, sh, m⟩ = [] := by unfold lops; rw [if_pos hc]
    rw [this]
    exact ⟨⟨_, _, rfl, .nul⟩, K0⟩
  by_cases k0 : k = 0
  · have := none k rfl (.inl k0)
    simp (maxSteps:=9^7)(disch:=first|assumption|((try simp only[nX]);omega)|simp) [k0]
    simpa [k0] using this
  by_cases k1 : dcls k = 1
  case neg =>
    have := none k rfl (.inr (.inl k1))
    simp (maxSteps:=9^7)(disch:=first|assumption|((try simp only[nX]);omega)|simp) [k0, k1]
    simpa using this
  by_cases k13 : k = 13
  · have := none k rfl (by simp [k13])
    subst k13
    simp (maxSteps:=9^7)(disch:=first|assumption|((try simp only[nX]);omega)|simp) [k1]
    simpa using this
  by_cases k76 : k = 76
  · have := none k rfl (by simp [k76])
    subst k76
    simp (maxSteps:=9^7)(disch:=first|assumption|((try simp only[nX]);omega)|simp) [k1]
    simpa using this
  by_cases k77 : k = 77
  · have := none k rfl (by simp [k77])
    subst k77
    simp (maxSteps:=9^7)(disch:=first|assumption|((try simp only[nX]);omega)|simp) [k1]
    simpa using this
  have hN : ¬ (k = 0 ∨ dcls k ≠ 1 ∨ k = 13 ∨ k = 76 ∨ k = 77) := by omega
  clear none
  by_cases k53 : k = 53
  · subst k53
    have hL : lops ⟨53, s, t, d, sh, m⟩ = [⟨1, t, 0, 0, m <<< 16⟩] := by simp [lops, k1]
    rw [hL]
    simp (maxSteps:=9^7)(disch:=first|assumption|((try simp only[nX]);omega)|simp) [k1, g1]
    first | exact sees_new get_push_self rfl | exact ⟨sees_new get_push_self rfl, K0⟩ | exact ⟨sees_new get_push_self rfl, (K0.push _).push _⟩ | (refine ⟨?_, ((K0.push _).push _).push _⟩; refine sees_new (ro := false) ((get_push_ne ?_).trans ?_) rfl; (rw [push_next, push_next]; omega); exact get_push_self)
  by_cases k14 : k = 14
  · subst k14
    have hL : lops ⟨14, s, t, d, sh, m⟩ = [⟨2, d, 32, 0, 0#32⟩] := by simp [lops, k1]
    rw [hL]
    simp (maxSteps:=9^7)(disch:=first|assumption|((try simp only[nX]);omega)|simp) [k1, g1]
    first | exact sees_new get_push_self rfl | exact ⟨sees_new get_push_self rfl, K0⟩ | exact ⟨sees_new get_push_self rfl, (K0.push _).push _⟩ | (refine ⟨?_, ((K0.push _).push _).push _⟩; refine sees_new (ro := false) ((get_push_ne ?_).trans ?_) rfl; (rw [push_next, push_next]; omega); exact get_push_self)
  by_cases k16 : k = 16
  · subst k16
    have hL : lops ⟨16, s, t, d, sh, m⟩ = [⟨2, d, 33, 0, 0#32⟩] := by simp [lops, k1]
    rw [hL]
    simp (maxSteps:=9^7)(disch:=first|assumption|((try simp only[nX]);omega)|simp) [k1, g1]
    first | exact sees_new get_push_self rfl | exact ⟨sees_new get_push_self rfl, K0⟩ | exact ⟨sees_new get_push_self rfl, (K0.push _).push _⟩ | (refine ⟨?_, ((K0.push _).push _).push _⟩; refine sees_new (ro := false) ((get_push_ne ?_).trans ?_) rfl; (rw [push_next, push_next]; omega); exact get_push_self)
  by_cases k15 : k = 15
  · subst k15
    have hL : lops ⟨15, s, t, d, sh, m⟩ = [⟨2, 32, s, 0, 0#32⟩] := by simp [lops, k1]
    rw [hL]
    simp (maxSteps:=9^7)(disch:=first|assumption|((try simp only[nX]);omega)|simp) [k1, g1]
    first | exact sees_new get_push_self rfl | exact ⟨sees_new get_push_self rfl, K0⟩ | exact ⟨sees_new get_push_self rfl, (K0.push _).push _⟩ | (refine ⟨?_, ((K0.push _).push _).push _⟩; refine sees_new (ro := false) ((get_push_ne ?_).trans ?_) rfl; (rw [push_next, push_next]; omega); exact get_push_self)
  by_cases k17 : k = 17
  · subst k17
    have hL : lops ⟨17, s, t, d, sh, m⟩ = [⟨2, 33, s, 0, 0#32⟩] := by simp [lops, k1]
    rw [hL]
    simp (maxSteps:=9^7)(disch:=first|assumption|((try simp only[nX]);omega)|simp) [k1, g1]
    first | exact sees_new get_push_self rfl | exact ⟨sees_new get_push_self rfl, K0⟩ | exact ⟨sees_new get_push_self rfl, (K0.push _).push _⟩ | (refine ⟨?_, ((K0.push _).push _).push _⟩; refine sees_new (ro := false) ((get_push_ne ?_).trans ?_) rfl; (rw [push_next, push_next]; omega); exact get_push_self)
  by_cases k3 : k ≤ 3
  · have hL : lops ⟨k, s, t, d, sh, m⟩ = [⟨1, 34, 0, 0, BitVec.ofInt 32 sh⟩, ⟨lkd k, d, t, 34, 0#32⟩] := by simp [lops, k0, k1, k13, k76, k77, k53, k14, k16, k15, k17, k3]
    rw [hL]
    simp (maxSteps:=9^7)(disch:=first|assumption|((try simp only[nX]);omega)|simp) [k0, k1, k13, k76, k77, k53, k14, k16, k15, k17, k3, g1, GCI_of (hki _)]
    first | exact sees_new get_push_self rfl | exact ⟨sees_new get_push_self rfl, K0⟩ | exact ⟨sees_new get_push_self rfl, (K0.push _).push _⟩ | (refine ⟨?_, ((K0.push _).push _).push _⟩; refine sees_new (ro := false) ((get_push_ne ?_).trans ?_) rfl; (rw [push_next, push_next]; omega); exact get_push_self)
  by_cases k6 : k ≤ 6
  · have hL : lops ⟨k, s, t, d, sh, m⟩ = [⟨lkd k, d, t, s, 0#32⟩] := by simp [lops, k0, k1, k13, k76, k77, k53, k14, k16, k15, k17, k3, k6]
    rw [hL]
    simp (maxSteps:=9^7)(disch:=first|assumption|((try simp only[nX]);omega)|simp) [k0, k1, k13, k76, k77, k53, k14, k16, k15, k17, k3, k6, g1, GCI_of (hki _)]
    first | exact sees_new get_push_self rfl | exact ⟨sees_new get_push_self rfl, K0⟩ | exact ⟨sees_new get_push_self rfl, (K0.push _).push _⟩ | (refine ⟨?_, ((K0.push _).push _).push _⟩; refine sees_new (ro := false) ((get_push_ne ?_).trans ?_) rfl; (rw [push_next, push_next]; omega); exact get_push_self)
  have hlast : ¬ (46 ≤ k ∧ k ≤ 52) → lops ⟨k, s, t, d, sh, m⟩ = [⟨lkd k, d, s, t, 0#32⟩] := fun hc => by simp only [lops]; rw [if_neg hN, if_neg k53, if_neg k14, if_neg k16, if_neg k15, if_neg k17, if_neg k3, if_neg k6, if_neg hc]
  by_cases k46 : 46 ≤ k
  · by_cases k52 : k ≤ 52
    · have hL : lops ⟨k, s, t, d, sh, m⟩ = [⟨1, 34, 0, 0, limm ⟨k, s, t, d, sh, m⟩⟩, ⟨lkd k, t, s, 34, 0#32⟩] := by simp [lops, k0, k1, k13, k76, k77, k53, k14, k16, k15, k17, k3, k6, k46, k52]
      have ha : aInto ⟨k, s, t, d, sh, m⟩ = t := by
        have : aIs k = true := by simp [aIs]; omega
        simp only [aInto, this]
        rw [if_neg (by decide), if_pos (by omega)]
      rw [hL]
      rw [ha] at hin
      simp (maxSteps:=9^7)(disch:=first|assumption|((try simp only[nX]);omega)|simp) [k0, k1, k13, k76, k77, k53, k14, k16, k15, k17, k3, k6, k46, k52, g1, r1, GCI_of (hki _), GCI_of (hin _), GCI_of (him _)]
      first | exact sees_new get_push_self rfl | exact ⟨sees_new get_push_self rfl, K0⟩ | exact ⟨sees_new get_push_self rfl, (K0.push _).push _⟩ | (refine ⟨?_, ((K0.push _).push _).push _⟩; refine sees_new (ro := false) ((get_push_ne ?_).trans ?_) rfl; (rw [push_next, push_next]; omega); exact get_push_self)
    · rw [hlast (by omega)]
      by_cases c : aInto ⟨k, s, t, d, sh, m⟩ = t
      · rw [c] at hin
        simp (maxSteps:=9^7)(disch:=first|assumption|((try simp only[nX]);omega)|simp) [k0, k1, k13, k76, k77, k53, k14, k16, k15, k17, k3, k6, k46, k52, g1, r1, GCI_of (hki _), GCI_of (hin _)]
        first | exact sees_new get_push_self rfl | exact ⟨sees_new get_push_self rfl, K0⟩ | exact ⟨sees_new get_push_self rfl, (K0.push _).push _⟩ | (refine ⟨?_, ((K0.push _).push _).push _⟩; refine sees_new (ro := false) ((get_push_ne ?_).trans ?_) rfl; (rw [push_next, push_next]; omega); exact get_push_self)
      · simp (maxSteps:=9^7)(disch:=first|assumption|((try simp only[nX]);omega)|simp) [k0, k1, k13, k76, k77, k53, k14, k16, k15, k17, k3, k6, k46, k52, g1, r1, c, GCI_of (hki _), GCI_of (hin _)]
        first | exact sees_new get_push_self rfl | exact ⟨sees_new get_push_self rfl, K0⟩ | exact ⟨sees_new get_push_self rfl, (K0.push _).push _⟩ | (refine ⟨?_, ((K0.push _).push _).push _⟩; refine sees_new (ro := false) ((get_push_ne ?_).trans ?_) rfl; (rw [push_next, push_next]; omega); exact get_push_self)
  · rw [hlast (by omega)]
    by_cases c : aInto ⟨k, s, t, d, sh, m⟩ = t
    · rw [c] at hin
      simp (maxSteps:=9^7)(disch:=first|assumption|((try simp only[nX]);omega)|simp) [k0, k1, k13, k76, k77, k53, k14, k16, k15, k17, k3, k6, k46, g1, r1, GCI_of (hki _), GCI_of (hin _)]
      first | exact sees_new get_push_self rfl | exact ⟨sees_new get_push_self rfl, K0⟩ | exact ⟨sees_new get_push_self rfl, (K0.push _).push _⟩ | (refine ⟨?_, ((K0.push _).push _).push _⟩; refine sees_new (ro := false) ((get_push_ne ?_).trans ?_) rfl; (rw [push_next, push_next]; omega); exact get_push_self)
    · simp (maxSteps:=9^7)(disch:=first|assumption|((try simp only[nX]);omega)|simp) [k0, k1, k13, k76, k77, k53, k14, k16, k15, k17, k3, k6, k46, g1, r1, c, GCI_of (hki _), GCI_of (hin _)]
      first | exact sees_new get_push_self rfl | exact ⟨sees_new get_push_self rfl, K0⟩ | exact ⟨sees_new get_push_self rfl, (K0.push _).push _⟩ | (refine ⟨?_, ((K0.push _).push _).push _⟩; refine sees_new (ro := false) ((get_push_ne ?_).trans ?_) rfl; (rw [push_next, push_next]; omega); exact get_push_self)
end
end Go.Proofs.YtmgoleiafiffoaaGreat.Cd
