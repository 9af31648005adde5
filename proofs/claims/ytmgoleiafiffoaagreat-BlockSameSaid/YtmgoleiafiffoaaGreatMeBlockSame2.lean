/- Texts of one kind, one behind the other. -/
import Derived.Test.YtmgoleiafiffoaaGreatMd1
import Derived.Test.YtmgoleiafiffoaaGreatMdz0
import Derived.Test.YtmgoleiafiffoaaGreatMcz0
import Derived.Test.YtmgoleiafiffoaaGreatMeBlockSame1
/- The document's tables of instructions. -/
set_option maxRecDepth 1000000
set_option maxHeartbeats 8000000
set_option linter.unusedSimpArgs false
set_option linter.unusedVariables false
namespace Go.Proofs.YtmgoleiafiffoaaGreat.Cd
open Go Go.Dx
/-- A row of the table. -/
structure Rw where
  op : Int
  sub : Int
  k : Int
  f : ByteArray
def encRw : Enc Rw := ⟨4, fun x => [.int .i64 x.op, .int .i64 x.sub, .int .i64 x.k, .string x.f], fun _ => rfl, fun _ => rfl, by decide⟩
@[simp] theorem encRw_sz : encRw.sz = 4 := rfl
def spRows : List Rw := [⟨0, 0, 1, ⟨#[116, 100, 104]⟩⟩, ⟨0, 2, 2, ⟨#[116, 100, 104]⟩⟩, ⟨0, 3, 3, ⟨#[116, 100, 104]⟩⟩, ⟨0, 4, 4, ⟨#[115, 116, 100]⟩⟩, ⟨0, 6, 5, ⟨#[115, 116, 100]⟩⟩, ⟨0, 7, 6, ⟨#[115, 116, 100]⟩⟩, ⟨0, 8, 7, ⟨#[115]⟩⟩, ⟨0, 9, 8, ⟨#[115, 100]⟩⟩, ⟨0, 10, 9, ⟨#[115, 116, 100]⟩⟩, ⟨0, 11, 10, ⟨#[115, 116, 100]⟩⟩, ⟨0, 12, 11, .empty⟩, ⟨0, 13, 12, .empty⟩, ⟨0, 15, 13, .empty⟩, ⟨0, 16, 14, ⟨#[100]⟩⟩, ⟨0, 17, 15, ⟨#[115]⟩⟩, ⟨0, 18, 16, ⟨#[100]⟩⟩, ⟨0, 19, 17, ⟨#[115]⟩⟩, ⟨0, 24, 18, ⟨#[115, 116]⟩⟩, ⟨0, 25, 19, ⟨#[115, 116]⟩⟩, ⟨0, 26, 20, ⟨#[115, 116]⟩⟩, ⟨0, 27, 21, ⟨#[115, 116]⟩⟩, ⟨0, 32, 22, ⟨#[115, 116, 100]⟩⟩, ⟨0, 33, 23, ⟨#[115, 116, 100]⟩⟩, ⟨0, 34, 24, ⟨#[115, 116, 100]⟩⟩, ⟨0, 35, 25, ⟨#[115, 116, 100]⟩⟩, ⟨0, 36, 26, ⟨#[115, 116, 100]⟩⟩, ⟨0, 37, 27, ⟨#[115, 116, 100]⟩⟩, ⟨0, 38, 28, ⟨#[115, 116, 100]⟩⟩, ⟨0, 39, 29, ⟨#[115, 116, 100]⟩⟩, ⟨0, 42, 30, ⟨#[115, 116, 100]⟩⟩, ⟨0, 43, 31, ⟨#[115, 116, 100]⟩⟩, ⟨0, 48, 32, ⟨#[115, 116]⟩⟩, ⟨0, 50, 33, ⟨#[115, 116]⟩⟩, ⟨0, 52, 34, ⟨#[115, 116]⟩⟩, ⟨0, 54, 35, ⟨#[115, 116]⟩⟩]
def plRows : List Rw := [⟨2, 0, 40, ⟨#[106]⟩⟩, ⟨3, 0, 41, ⟨#[106]⟩⟩, ⟨4, 0, 42, ⟨#[115, 116, 105]⟩⟩, ⟨5, 0, 43, ⟨#[115, 116, 105]⟩⟩, ⟨6, 0, 44, ⟨#[115, 105]⟩⟩, ⟨7, 0, 45, ⟨#[115, 105]⟩⟩, ⟨8, 0, 46, ⟨#[115, 116, 105]⟩⟩, ⟨9, 0, 47, ⟨#[115, 116, 105]⟩⟩, ⟨10, 0, 48, ⟨#[115, 116, 105]⟩⟩, ⟨11, 0, 49, ⟨#[115, 116, 105]⟩⟩, ⟨12, 0, 50, ⟨#[115, 116, 105]⟩⟩, ⟨13, 0, 51, ⟨#[115, 116, 105]⟩⟩, ⟨14, 0, 52, ⟨#[115, 116, 105]⟩⟩, ⟨15, 0, 53, ⟨#[116, 105]⟩⟩, ⟨17, 0, 62, .empty⟩, ⟨32, 0, 66, ⟨#[115, 116, 105]⟩⟩, ⟨33, 0, 67, ⟨#[115, 116, 105]⟩⟩, ⟨35, 0, 68, ⟨#[115, 116, 105]⟩⟩, ⟨36, 0, 69, ⟨#[115, 116, 105]⟩⟩, ⟨37, 0, 70, ⟨#[115, 116, 105]⟩⟩, ⟨40, 0, 71, ⟨#[115, 116, 105]⟩⟩, ⟨41, 0, 72, ⟨#[115, 116, 105]⟩⟩, ⟨43, 0, 73, ⟨#[115, 116, 105]⟩⟩, ⟨47, 0, 76, .empty⟩, ⟨48, 0, 74, ⟨#[115, 116, 105]⟩⟩, ⟨51, 0, 77, .empty⟩, ⟨56, 0, 75, ⟨#[115, 116, 105]⟩⟩]
def otRows : List Rw := [⟨1, 0, 36, ⟨#[115, 105]⟩⟩, ⟨1, 1, 37, ⟨#[115, 105]⟩⟩, ⟨1, 16, 38, ⟨#[115, 105]⟩⟩, ⟨1, 17, 39, ⟨#[115, 105]⟩⟩, ⟨16, 0, 54, ⟨#[116, 100]⟩⟩, ⟨16, 4, 55, ⟨#[116, 100]⟩⟩, ⟨16, 65, 56, .empty⟩, ⟨16, 66, 57, .empty⟩, ⟨16, 70, 58, .empty⟩, ⟨16, 72, 59, .empty⟩, ⟨16, 88, 60, .empty⟩, ⟨16, 96, 61, .empty⟩, ⟨28, 2, 63, ⟨#[115, 116, 100]⟩⟩, ⟨28, 32, 64, ⟨#[115, 100]⟩⟩, ⟨28, 33, 65, ⟨#[115, 100]⟩⟩]
theorem opV_len0 {e : Env} {h : Hp} {x : Dx.X} : opV e h (.len 0 x) = (match x.ev e with | .string s => some (.int .i64 s.size, h) | _ => none) := by
  simp only [opV]
  generalize x.ev e = v
  cases v <;> rfl
/-- A truth; a word; an instruction; a row and a truth. -/
def isB (v : Value) : Prop := ∃ t : Bool, v = .bool t
def isW (v : Value) : Prop := ∃ t : BitVec 32, v = u32 t
def isI (v : Value) : Prop := ∃ i : Ins, v = .agg (encIns.enc i).toArray
def isR (v : Value) : Prop := ∃ (r : Rw) (t : Bool), r.f.size < 2 ^ 40 ∧ v = .tuple #[.agg (encRw.enc r).toArray, .bool t]
@[simp] theorem isB_b (t : Bool) : isB (.bool t) := ⟨t, rfl⟩
@[simp] theorem isW_w (t : BitVec 32) : isW (u32 t) := ⟨t, rfl⟩
@[simp] theorem isI_i (a b c d e : Int) (m : BitVec 32) : isI (.agg #[.int .i64 a, .int .i64 b, .int .i64 c, .int .i64 d, .int .i64 e, u32 m]) := ⟨⟨a, b, c, d, e, m⟩, rfl⟩
theorem all_get {α : Type} (E : Enc α) (xs : List α) (k j : Nat) (hk : k < xs.length) (hj : j < E.sz) : (E.all xs)[k * E.sz + j]? = (E.enc xs[k])[j]? := by
  have := E.at' xs [] k hk
  rw [List.append_nil] at this
  rw [← this, List.getElem?_take, if_pos hj, List.getElem?_drop]
theorem all_rdn {α : Type} (E : Enc α) {h : Hp} {b : Nat} {ro : Bool} {xs : List α} (hg : h.get b = some (.cells ro (E.all xs))) (k : Nat) (hk : k < xs.length) : h.rdn b (k * E.sz) E.sz = some (E.enc xs[k]) := by
  have := E.at' xs [] k hk
  rw [List.append_nil] at this
  have hm : (k + 1) * E.sz ≤ xs.length * E.sz := Nat.mul_le_mul_right _ hk
  rw [Nat.add_mul, Nat.one_mul] at hm
  simp only [Hp.rdn, Hp.cells, hg, Option.bind_some]
  rw [if_pos (by simp; omega), this]
section
variable {h : Hp} {q : Value → Hp → Prop}
theorem r_special : WC T n_pianolaref3_special [] h fun v h' => v = .slice (some ⟨h.next, 0, none⟩) 35 35 ∧ h' = h.push (.cells false (encRw.all spRows)) := by
  rw [w_pianolaref3_special]
  simp (maxSteps := 1000000) (disch := first | assumption | ((try simp only [push_next, put_next, adv_next, List.length_cons, List.length_nil, List.length_map, List.length_set]); omega) | simp) []
  rfl
theorem r_plain : WC T n_pianolaref3_plain [] h fun v h' => v = .slice (some ⟨h.next, 0, none⟩) 27 27 ∧ h' = h.push (.cells false (encRw.all plRows)) := by
  rw [w_pianolaref3_plain]
  simp (maxSteps := 1000000) (disch := first | assumption | ((try simp only [push_next, put_next, adv_next, List.length_cons, List.length_nil, List.length_map, List.length_set]); omega) | simp) []
  rfl
theorem r_others : WC T n_pianolaref3_others [] h fun v h' => v = .slice (some ⟨h.next, 0, none⟩) 15 15 ∧ h' = h.push (.cells false (encRw.all otRows)) := by
  rw [w_pianolaref3_others]
  simp (maxSteps := 1000000) (disch := first | assumption | ((try simp only [push_next, put_next, adv_next, List.length_cons, List.length_nil, List.length_map, List.length_set]); omega) | simp) []
  rfl
/-- Does a row of fields have one? -/
theorem r_has {f : ByteArray} {c : BitVec 8} (hf : f.size < 2 ^ 40) : WC T n_pianolaref3_has [.string f, u8 c] h fun v h' => isB v ∧ h' = h := by
  rw [w_pianolaref3_has]
  simp (maxSteps := 1000000) (disch := first | assumption | ((try simp only [push_next, put_next, adv_next, List.length_cons, List.length_nil, List.length_map, List.length_set]); omega) | simp)
  refine G_loop (fun j e h' => ∃ k : Nat, j = f.size - k ∧ k ≤ f.size ∧ h' = h ∧ e 0 = .string f ∧ e 1 = u8 c ∧ e 5 = .int .i64 k) ?_ f.size _ _ ⟨0, rfl, by omega, rfl, by simp, by simp, by simp⟩
  rintro j ih e h' ⟨k, rfl, hk, rfl, e0, e1, e5⟩
  by_cases c1 : k < f.size
  · have c1' : (k : Int) < f.size := by omega
    have hix : ∃ b : BitVec 8, ixsV (.int .i64 (k : Int)) (.string f) = some (u8 b) := by
      have hl : k < f.data.toList.length := by simpa using c1
      refine ⟨BitVec.ofNat 8 (f.data.toList[k]).toNat, ?_⟩
      simp only [ixsV]
      rw [indexA_int (by omega) (by omega)]
      simp only [Option.bind_some, Int.toNat_natCast]
      rw [List.getElem?_eq_getElem hl]
      have := (f.data.toList[k]).toNat_lt
      simp only [Option.map_some, u8, BitVec.toNat_ofNat]
      rw [Nat.mod_eq_of_lt (by omega)]
    obtain ⟨b, hix⟩ := hix
    by_cases hbc : b = c
    · simp (maxSteps := 1000000) (disch := first | assumption | ((try simp only [push_next, put_next, adv_next, List.length_cons, List.length_nil, List.length_map, List.length_set]); omega) | simp) [e0, e1, e5, c1', opV_len0, hix, hbc]
    · simp (maxSteps := 1000000) (disch := first | assumption | ((try simp only [push_next, put_next, adv_next, List.length_cons, List.length_nil, List.length_map, List.length_set]); omega) | simp) [e0, e1, e5, c1', opV_len0, hix, hbc]
      exact ih (f.size - (k + 1)) (by omega) _ _ ⟨k + 1, rfl, by omega, rfl, by simp [e0], by simp [e1], by simp⟩
  · have c1' : ¬ (k : Int) < f.size := by omega
    simp (maxSteps := 1000000) (disch := first | assumption | ((try simp only [push_next, put_next, adv_next, List.length_cons, List.length_nil, List.length_map, List.length_set]); omega) | simp) [e0, e1, e5, c1', opV_len0]
theorem r_small {n : Int} {t : Bool} : WC T n_pianolaref3_small [.int .i64 n, .bool t] h fun v h' => isB v ∧ h' = h := by
  rw [w_pianolaref3_small]
  by_cases c1 : n = 0
  · simp (maxSteps := 1000000) (disch := first | assumption | ((try simp only [push_next, put_next, adv_next, List.length_cons, List.length_nil, List.length_map, List.length_set]); omega) | simp) [c1]
  · cases t with
    | false => simp (maxSteps := 1000000) (disch := first | assumption | ((try simp only [push_next, put_next, adv_next, List.length_cons, List.length_nil, List.length_map, List.length_set]); omega) | simp) [c1]
    | true =>
      by_cases c2 : 0 < n
      · by_cases c3 : n < 32
        · simp (maxSteps := 1000000) (disch := first | assumption | ((try simp only [push_next, put_next, adv_next, List.length_cons, List.length_nil, List.length_map, List.length_set]); omega) | simp) [c1, c2, c3]
        · simp (maxSteps := 1000000) (disch := first | assumption | ((try simp only [push_next, put_next, adv_next, List.length_cons, List.length_nil, List.length_map, List.length_set]); omega) | simp) [c1, c2, c3]
      · simp (maxSteps := 1000000) (disch := first | assumption | ((try simp only [push_next, put_next, adv_next, List.length_cons, List.length_nil, List.length_map, List.length_set]); omega) | simp) [c1, c2]
theorem find_in {Q : Ex → Env → Hp → Prop} {e : Env} {F : List Fr} {rs : List Rw} {b p : Nat} {kind : Int} {H : Hp} {z : List Value} (hs : H.get b = some (.cells false (encRw.all rs))) (hl : rs.length < 2 ^ 30) (e0 : e 0 = .int .i64 kind) (e2 : e 2 = ptr p 0) (e5 : e 5 = .slice (some ⟨b, 0, none⟩) rs.length rs.length) (e6 : e 6 = .int .i64 0)
    (g2 : H.get p = some (.cells false z)) (hz : z.length = 4) (hk : ∀ e' : Env, e' 0 = e 0 → e' 2 = e 2 → e' 4 = e 4 → GR T Q F (.x 2) e' H) (hr : ∀ (e' : Env) (r : Rw), r ∈ rs → e' 2 = e 2 → e' 3 = .bool true → GR T Q F .r e' (H.put p (some (.cells false (encRw.enc r))))) : G T Q (.loop c1_pianolaref3_find) F e H := by
  refine G_loop (fun j e' h' => ∃ k : Nat, j = rs.length - k ∧ k ≤ rs.length ∧ h' = H ∧ e' 0 = e 0 ∧ e' 2 = e 2 ∧ e' 4 = e 4 ∧ e' 5 = e 5 ∧ e' 6 = .int .i64 k) ?_ rs.length _ _ ⟨0, rfl, by omega, rfl, rfl, rfl, rfl, rfl, e6⟩
  rintro j ih e' h' ⟨k, rfl, hkl, rfl, f0, f2, f4, f5, f6⟩
  have lb := lt_of_get g2
  by_cases c1 : k < rs.length
  · have c1' : (k : Int) < rs.length := by omega
    have hw := wr_all (vs := encRw.enc rs[k]) g2 (by rw [hz, encRw.len]; rfl) (encRw.one _)
    have h2 : (encRw.all rs)[k * 4 + 2]? = some (.int .i64 rs[k].k) := all_get encRw rs k 2 c1 (by decide)
    have h2' : ∀ hh : k * 4 + 2 < (encRw.all rs).length, (encRw.all rs)[k * 4 + 2]'hh = .int .i64 rs[k].k := fun hh => by rw [List.getElem?_eq_getElem hh] at h2; exact Option.some.inj h2
    have h4 : h'.rdn b (k * 4) 4 = some (encRw.enc rs[k]) := all_rdn encRw hs k c1
    have hal : (encRw.all rs).length = rs.length * 4 := by simp
    generalize encRw.all rs = C at *
    by_cases hq : rs[k].k = kind
    · simp only [encRw] at h4 hw
      have hd : z.drop 4 = [] := List.drop_eq_nil_of_le (by omega)
      have hrk := fun e' => hr e' rs[k] (List.getElem_mem c1)
      simp only [encRw, hq] at hrk h4
      simp (maxSteps := 1000000) (disch := first | assumption | ((try simp only [push_next, put_next, adv_next, List.length_cons, List.length_nil, List.length_map, List.length_set]); omega) | simp) [f0, f2, f5, f6, e0, e2, e5, c1, c1', hs, h2, h2', hal, h4, hq, g2, hz, hd]
      exact hrk _ (by simp [f2, e2]) (by simp)
    · simp (maxSteps := 1000000) (disch := first | assumption | ((try simp only [push_next, put_next, adv_next, List.length_cons, List.length_nil, List.length_map, List.length_set]); omega) | simp) [f0, f2, f5, f6, e0, e2, e5, c1, c1', hs, h2, h2', hal, h4, hq]
      exact ih (rs.length - (k + 1)) (by omega) _ _ ⟨k + 1, rfl, by omega, rfl, by simp [f0], by simp [f2], by simp [f4], by simp [f5], by simp⟩
  · have c1' : ¬ (k : Int) < rs.length := by omega
    simp (maxSteps := 1000000) (disch := first | assumption | ((try simp only [push_next, put_next, adv_next, List.length_cons, List.length_nil, List.length_map, List.length_set]); omega) | simp) [f0, f2, f5, f6, e0, e2, e5, c1']
    exact hk _ (by simp [f0, e0]) (by simp [f2, e2]) (by simp [f4])
theorem rows_f : (∀ r ∈ spRows, r.f.size < 2 ^ 40) ∧ (∀ r ∈ plRows, r.f.size < 2 ^ 40) ∧ (∀ r ∈ otRows, r.f.size < 2 ^ 40) := by
  refine ⟨?_, ?_, ?_⟩ <;> decide +kernel
theorem r_find {kind : Int} : WC T n_pianolaref3_find [.int .i64 kind] h fun v h' => isR v ∧ Kp h h' := by
  rw [w_pianolaref3_find]
  simp (maxSteps := 1000000) (disch := first | assumption | ((try simp only [push_next, put_next, adv_next, List.length_cons, List.length_nil, List.length_map, List.length_set]); omega) | simp) []
  refine G_loop (fun j e h' => ∃ k : Nat, j = 3 - k ∧ k ≤ 3 ∧ Kp h h' ∧ h'.get h.next = some (.cells false [.int .i64 0, .int .i64 0, .int .i64 0, .string .empty]) ∧ e 0 = .int .i64 kind ∧ e 2 = ptr h.next 0 ∧ e 4 = .int .i64 k) ?_ 3 _ _ ⟨0, rfl, by omega, by simp (maxSteps := 1000000) (disch := first | assumption | ((try simp only [push_next, put_next, adv_next, List.length_cons, List.length_nil, List.length_map, List.length_set]); omega) | simp) [], by simp (maxSteps := 1000000) (disch := first | assumption | ((try simp only [push_next, put_next, adv_next, List.length_cons, List.length_nil, List.length_map, List.length_set]); omega) | simp) [], by simp, by simp, by simp⟩
  rintro j ih e h' ⟨k, rfl, hk, K, g2, e0, e2, e4⟩
  have l2 := lt_of_get g2
  by_cases c1 : k < 3
  case neg =>
    obtain rfl : k = 3 := by omega
    simp (maxSteps := 1000000) (disch := first | assumption | ((try simp only [push_next, put_next, adv_next, List.length_cons, List.length_nil, List.length_map, List.length_set]); omega) | simp) [e4, e2, g2]
    exact ⟨⟨0, 0, 0, .empty⟩, false, by decide, rfl⟩
  have c1' : (k : Int) < 3 := by omega
  simp (maxSteps := 1000000) (disch := first | assumption | ((try simp only [push_next, put_next, adv_next, List.length_cons, List.length_nil, List.length_map, List.length_set]); omega) | simp) [e4, c1', -g2_pianolaref3_find]
  refine GC_intro r_special fun v h1 ⟨hv, hh⟩ => ?_
  subst hv hh
  obtain ⟨f1, f2, f3⟩ := rows_f
  obtain rfl | rfl | rfl : k = 0 ∨ k = 1 ∨ k = 2 := by omega
  · simp (maxSteps := 1000000) (disch := first | assumption | ((try simp only [push_next, put_next, adv_next, List.length_cons, List.length_nil, List.length_map, List.length_set]); omega) | simp) [e4]
    refine find_in (rs := spRows) (kind := kind) (p := h.next) (b := h'.next) get_push_self (by decide) (by simp [e0]) (by simp [e2]) (by simp; rfl) (by simp) ((get_push_ne (by omega)).trans g2) rfl (fun e' k0 k2 k4 => ?_) fun e' r hr k2 k3 => ?_
    · have k4' : e' 4 = .int .i64 0 := by rw [k4]; simp [e4]
      simp (maxSteps := 1000000) (disch := first | assumption | ((try simp only [push_next, put_next, adv_next, List.length_cons, List.length_nil, List.length_map, List.length_set]); omega) | simp) [k4']
      exact ih 2 (by omega) _ _ ⟨1, rfl, by omega, K.push _, (get_push_ne (by omega)).trans g2, by simp [k0, e0], by simp [k2, e2], by simp⟩
    · have k2' : e' 2 = ptr h.next 0 := by rw [k2]; simp [e2]
      simp (maxSteps := 1000000) (disch := first | assumption | ((try simp only [push_next, put_next, adv_next, List.length_cons, List.length_nil, List.length_map, List.length_set]); omega) | simp) [k2', k3, encRw]
      exact ⟨⟨r, true, f1 r hr, rfl⟩, (K.put (Nat.le_refl _) _).push _⟩
  · simp (maxSteps := 1000000) (disch := first | assumption | ((try simp only [push_next, put_next, adv_next, List.length_cons, List.length_nil, List.length_map, List.length_set]); omega) | simp) [e4]
    refine GC_intro r_plain fun v h1 ⟨hv, hh⟩ => ?_
    subst hv hh
    simp (maxSteps := 1000000) (disch := first | assumption | ((try simp only [push_next, put_next, adv_next, List.length_cons, List.length_nil, List.length_map, List.length_set]); omega) | simp) [e4]
    refine find_in (rs := plRows) (kind := kind) (p := h.next) (b := h'.next + 1) get_push_self (by decide) (by simp [e0]) (by simp [e2]) (by simp; rfl) (by simp) ((get_push_ne (by rw [push_next]; omega)).trans ((get_push_ne (by omega)).trans g2)) rfl (fun e' k0 k2 k4 => ?_) fun e' r hr k2 k3 => ?_
    · have k4' : e' 4 = .int .i64 1 := by rw [k4]; simp [e4]
      simp (maxSteps := 1000000) (disch := first | assumption | ((try simp only [push_next, put_next, adv_next, List.length_cons, List.length_nil, List.length_map, List.length_set]); omega) | simp) [k4']
      exact ih 1 (by omega) _ _ ⟨2, rfl, by omega, (K.push _).push _, (get_push_ne (by rw [push_next]; omega)).trans ((get_push_ne (by omega)).trans g2), by simp [k0, e0], by simp [k2, e2], by simp⟩
    · have k2' : e' 2 = ptr h.next 0 := by rw [k2]; simp [e2]
      simp (maxSteps := 1000000) (disch := first | assumption | ((try simp only [push_next, put_next, adv_next, List.length_cons, List.length_nil, List.length_map, List.length_set]); omega) | simp) [k2', k3, encRw]
      exact ⟨⟨r, true, f2 r hr, rfl⟩, ((K.put (Nat.le_refl _) _).push _).push _⟩
  · simp (maxSteps := 1000000) (disch := first | assumption | ((try simp only [push_next, put_next, adv_next, List.length_cons, List.length_nil, List.length_map, List.length_set]); omega) | simp) [e4]
    refine GC_intro r_others fun v h1 ⟨hv, hh⟩ => ?_
    subst hv hh
    simp (maxSteps := 1000000) (disch := first | assumption | ((try simp only [push_next, put_next, adv_next, List.length_cons, List.length_nil, List.length_map, List.length_set]); omega) | simp) [e4]
    refine find_in (rs := otRows) (kind := kind) (p := h.next) (b := h'.next + 1) get_push_self (by decide) (by simp [e0]) (by simp [e2]) (by simp; rfl) (by simp) ((get_push_ne (by rw [push_next]; omega)).trans ((get_push_ne (by omega)).trans g2)) rfl (fun e' k0 k2 k4 => ?_) fun e' r hr k2 k3 => ?_
    · have k4' : e' 4 = .int .i64 2 := by rw [k4]; simp [e4]
      simp (maxSteps := 1000000) (disch := first | assumption | ((try simp only [push_next, put_next, adv_next, List.length_cons, List.length_nil, List.length_map, List.length_set]); omega) | simp) [k4']
      exact ih 0 (by omega) _ _ ⟨3, rfl, by omega, (K.push _).push _, (get_push_ne (by rw [push_next]; omega)).trans ((get_push_ne (by omega)).trans g2), by simp [k0, e0], by simp [k2, e2], by simp⟩
    · have k2' : e' 2 = ptr h.next 0 := by rw [k2]; simp [e2]
      simp (maxSteps := 1000000) (disch := first | assumption | ((try simp only [push_next, put_next, adv_next, List.length_cons, List.length_nil, List.length_map, List.length_set]); omega) | simp) [k2', k3, encRw]
      exact ⟨⟨r, true, f3 r hr, rfl⟩, ((K.put (Nat.le_refl _) _).push _).push _⟩
end
end Go.Proofs.YtmgoleiafiffoaaGreat.Cd

/- decode: words. -/
set_option maxRecDepth 1000000
set_option maxHeartbeats 8000000
set_option linter.unusedSimpArgs false
set_option linter.unusedVariables false
namespace Go.Proofs.YtmgoleiafiffoaaGreat.Cd
open Go Go.Dx
section
variable {h : Hp} {q : Value → Hp → Prop} {w : BitVec 32} {k : Int}
theorem dec_cop0 : WC T n_decode_cop0 [u32 w] h q ↔ q (.int .i64 (if w >>> 21 &&& 31#32 = 0#32 then 54 else if w >>> 21 &&& 31#32 = 4#32 then 55 else if w >>> 21 &&& 31#32 = 16#32 then tbTab.getD (w &&& 63#32).toNat 0 else 0)) h := by
  have ht := fun q => dec_table (h := h) (q := q) (lt_and63 w)
  rw [w_decode_cop0]
  by_cases c0 : w >>> 21 &&& 31#32 = 0#32
  · simp (maxSteps := 1000000) (disch := first | assumption | ((try simp only [push_next, put_next, adv_next, List.length_cons, List.length_nil, List.length_map, List.length_set]); omega) | simp) [c0]
  by_cases c4 : w >>> 21 &&& 31#32 = 4#32
  · simp (maxSteps := 1000000) (disch := first | assumption | ((try simp only [push_next, put_next, adv_next, List.length_cons, List.length_nil, List.length_map, List.length_set]); omega) | simp) [c4]
  by_cases c6 : w >>> 21 &&& 31#32 = 16#32
  · simp (maxSteps := 1000000) (disch := first | assumption | ((try simp only [push_next, put_next, adv_next, List.length_cons, List.length_nil, List.length_map, List.length_set]); omega) | simp) [c6, GC_of ht]
  · simp (maxSteps := 1000000) (disch := first | assumption | ((try simp only [push_next, put_next, adv_next, List.length_cons, List.length_nil, List.length_map, List.length_set]); omega) | simp) [c0, c4, c6]
theorem dec_kind : WC T n_decode_kind [u32 w] h q ↔ q (.int .i64 (dkind w)) h := by
  have h1 := fun q => dec_special (h := h) (q := q) (lt_and63 w)
  have h2 := fun q => dec_regimm (h := h) (q := q) (lt_and31 (w >>> 16))
  have h3 := fun q => dec_cop0 (h := h) (q := q) (w := w)
  have h4 := fun q => dec_special2 (h := h) (q := q) (lt_and63 w)
  have h5 := fun q => dec_major (h := h) (q := q) (lt_shr w 26 64 (by omega) (by omega))
  rw [w_decode_kind]
  unfold dkind
  by_cases c0 : w >>> 26 = 0#32
  · simp (maxSteps := 1000000) (disch := first | assumption | ((try simp only [push_next, put_next, adv_next, List.length_cons, List.length_nil, List.length_map, List.length_set]); omega) | simp) [c0, GC_of h1]
  by_cases c1 : w >>> 26 = 1#32
  · simp (maxSteps := 1000000) (disch := first | assumption | ((try simp only [push_next, put_next, adv_next, List.length_cons, List.length_nil, List.length_map, List.length_set]); omega) | simp) [c1, GC_of h2]
  by_cases c2 : w >>> 26 = 16#32
  · simp (maxSteps := 1000000) (disch := first | assumption | ((try simp only [push_next, put_next, adv_next, List.length_cons, List.length_nil, List.length_map, List.length_set]); omega) | simp) [c2, GC_of h3]
  by_cases c3 : w >>> 26 = 28#32
  · simp (maxSteps := 1000000) (disch := first | assumption | ((try simp only [push_next, put_next, adv_next, List.length_cons, List.length_nil, List.length_map, List.length_set]); omega) | simp) [c3, GC_of h4]
  · simp (maxSteps := 1000000) (disch := first | assumption | ((try simp only [push_next, put_next, adv_next, List.length_cons, List.length_nil, List.length_map, List.length_set]); omega) | simp) [c0, c1, c2, c3, GC_of h5]
theorem dfld_cases {k : Int} (hk : 0 ≤ k ∧ k ≤ 77) : dfld k = 0 ∨ dfld k = 1 ∨ dfld k = 3 ∨ dfld k = 4 ∨ dfld k = 5 ∨ dfld k = 6 ∨ dfld k = 7 ∨ dfld k = 14 ∨ dfld k = 17 ∨ dfld k = 18 ∨ dfld k = 19 ∨ dfld k = 32 := by
  obtain ⟨n, rfl⟩ : ∃ n : Nat, k = n := ⟨k.toNat, by omega⟩
  have : ∀ n : Fin 78, dfld (n.val : Int) = 0 ∨ dfld (n.val : Int) = 1 ∨ dfld (n.val : Int) = 3 ∨ dfld (n.val : Int) = 4 ∨ dfld (n.val : Int) = 5 ∨ dfld (n.val : Int) = 6 ∨ dfld (n.val : Int) = 7 ∨ dfld (n.val : Int) = 14 ∨ dfld (n.val : Int) = 17 ∨ dfld (n.val : Int) = 18 ∨ dfld (n.val : Int) = 19 ∨ dfld (n.val : Int) = 32 := by decide
  exact this ⟨n, by omega⟩
theorem an_0_1 : binV .and (.int .i64 0) (.int .i64 1) = some (.int .i64 0) := by rw [and_i64]; rfl
theorem an_0_2 : binV .and (.int .i64 0) (.int .i64 2) = some (.int .i64 0) := by rw [and_i64]; rfl
theorem an_0_4 : binV .and (.int .i64 0) (.int .i64 4) = some (.int .i64 0) := by rw [and_i64]; rfl
theorem an_0_8 : binV .and (.int .i64 0) (.int .i64 8) = some (.int .i64 0) := by rw [and_i64]; rfl
theorem an_0_16 : binV .and (.int .i64 0) (.int .i64 16) = some (.int .i64 0) := by rw [and_i64]; rfl
theorem an_0_32 : binV .and (.int .i64 0) (.int .i64 32) = some (.int .i64 0) := by rw [and_i64]; rfl
theorem an_1_1 : binV .and (.int .i64 1) (.int .i64 1) = some (.int .i64 1) := by rw [and_i64]; rfl
theorem an_1_2 : binV .and (.int .i64 1) (.int .i64 2) = some (.int .i64 0) := by rw [and_i64]; rfl
theorem an_1_4 : binV .and (.int .i64 1) (.int .i64 4) = some (.int .i64 0) := by rw [and_i64]; rfl
theorem an_1_8 : binV .and (.int .i64 1) (.int .i64 8) = some (.int .i64 0) := by rw [and_i64]; rfl
theorem an_1_16 : binV .and (.int .i64 1) (.int .i64 16) = some (.int .i64 0) := by rw [and_i64]; rfl
theorem an_1_32 : binV .and (.int .i64 1) (.int .i64 32) = some (.int .i64 0) := by rw [and_i64]; rfl
theorem an_3_1 : binV .and (.int .i64 3) (.int .i64 1) = some (.int .i64 1) := by rw [and_i64]; rfl
theorem an_3_2 : binV .and (.int .i64 3) (.int .i64 2) = some (.int .i64 2) := by rw [and_i64]; rfl
theorem an_3_4 : binV .and (.int .i64 3) (.int .i64 4) = some (.int .i64 0) := by rw [and_i64]; rfl
theorem an_3_8 : binV .and (.int .i64 3) (.int .i64 8) = some (.int .i64 0) := by rw [and_i64]; rfl
theorem an_3_16 : binV .and (.int .i64 3) (.int .i64 16) = some (.int .i64 0) := by rw [and_i64]; rfl
theorem an_3_32 : binV .and (.int .i64 3) (.int .i64 32) = some (.int .i64 0) := by rw [and_i64]; rfl
theorem an_4_1 : binV .and (.int .i64 4) (.int .i64 1) = some (.int .i64 0) := by rw [and_i64]; rfl
theorem an_4_2 : binV .and (.int .i64 4) (.int .i64 2) = some (.int .i64 0) := by rw [and_i64]; rfl
theorem an_4_4 : binV .and (.int .i64 4) (.int .i64 4) = some (.int .i64 4) := by rw [and_i64]; rfl
theorem an_4_8 : binV .and (.int .i64 4) (.int .i64 8) = some (.int .i64 0) := by rw [and_i64]; rfl
theorem an_4_16 : binV .and (.int .i64 4) (.int .i64 16) = some (.int .i64 0) := by rw [and_i64]; rfl
theorem an_4_32 : binV .and (.int .i64 4) (.int .i64 32) = some (.int .i64 0) := by rw [and_i64]; rfl
theorem an_5_1 : binV .and (.int .i64 5) (.int .i64 1) = some (.int .i64 1) := by rw [and_i64]; rfl
theorem an_5_2 : binV .and (.int .i64 5) (.int .i64 2) = some (.int .i64 0) := by rw [and_i64]; rfl
theorem an_5_4 : binV .and (.int .i64 5) (.int .i64 4) = some (.int .i64 4) := by rw [and_i64]; rfl
theorem an_5_8 : binV .and (.int .i64 5) (.int .i64 8) = some (.int .i64 0) := by rw [and_i64]; rfl
theorem an_5_16 : binV .and (.int .i64 5) (.int .i64 16) = some (.int .i64 0) := by rw [and_i64]; rfl
theorem an_5_32 : binV .and (.int .i64 5) (.int .i64 32) = some (.int .i64 0) := by rw [and_i64]; rfl
theorem an_6_1 : binV .and (.int .i64 6) (.int .i64 1) = some (.int .i64 0) := by rw [and_i64]; rfl
theorem an_6_2 : binV .and (.int .i64 6) (.int .i64 2) = some (.int .i64 2) := by rw [and_i64]; rfl
theorem an_6_4 : binV .and (.int .i64 6) (.int .i64 4) = some (.int .i64 4) := by rw [and_i64]; rfl
theorem an_6_8 : binV .and (.int .i64 6) (.int .i64 8) = some (.int .i64 0) := by rw [and_i64]; rfl
theorem an_6_16 : binV .and (.int .i64 6) (.int .i64 16) = some (.int .i64 0) := by rw [and_i64]; rfl
theorem an_6_32 : binV .and (.int .i64 6) (.int .i64 32) = some (.int .i64 0) := by rw [and_i64]; rfl
theorem an_7_1 : binV .and (.int .i64 7) (.int .i64 1) = some (.int .i64 1) := by rw [and_i64]; rfl
theorem an_7_2 : binV .and (.int .i64 7) (.int .i64 2) = some (.int .i64 2) := by rw [and_i64]; rfl
theorem an_7_4 : binV .and (.int .i64 7) (.int .i64 4) = some (.int .i64 4) := by rw [and_i64]; rfl
theorem an_7_8 : binV .and (.int .i64 7) (.int .i64 8) = some (.int .i64 0) := by rw [and_i64]; rfl
theorem an_7_16 : binV .and (.int .i64 7) (.int .i64 16) = some (.int .i64 0) := by rw [and_i64]; rfl
theorem an_7_32 : binV .and (.int .i64 7) (.int .i64 32) = some (.int .i64 0) := by rw [and_i64]; rfl
theorem an_14_1 : binV .and (.int .i64 14) (.int .i64 1) = some (.int .i64 0) := by rw [and_i64]; rfl
theorem an_14_2 : binV .and (.int .i64 14) (.int .i64 2) = some (.int .i64 2) := by rw [and_i64]; rfl
theorem an_14_4 : binV .and (.int .i64 14) (.int .i64 4) = some (.int .i64 4) := by rw [and_i64]; rfl
theorem an_14_8 : binV .and (.int .i64 14) (.int .i64 8) = some (.int .i64 8) := by rw [and_i64]; rfl
theorem an_14_16 : binV .and (.int .i64 14) (.int .i64 16) = some (.int .i64 0) := by rw [and_i64]; rfl
theorem an_14_32 : binV .and (.int .i64 14) (.int .i64 32) = some (.int .i64 0) := by rw [and_i64]; rfl
theorem an_17_1 : binV .and (.int .i64 17) (.int .i64 1) = some (.int .i64 1) := by rw [and_i64]; rfl
theorem an_17_2 : binV .and (.int .i64 17) (.int .i64 2) = some (.int .i64 0) := by rw [and_i64]; rfl
theorem an_17_4 : binV .and (.int .i64 17) (.int .i64 4) = some (.int .i64 0) := by rw [and_i64]; rfl
theorem an_17_8 : binV .and (.int .i64 17) (.int .i64 8) = some (.int .i64 0) := by rw [and_i64]; rfl
theorem an_17_16 : binV .and (.int .i64 17) (.int .i64 16) = some (.int .i64 16) := by rw [and_i64]; rfl
theorem an_17_32 : binV .and (.int .i64 17) (.int .i64 32) = some (.int .i64 0) := by rw [and_i64]; rfl
theorem an_18_1 : binV .and (.int .i64 18) (.int .i64 1) = some (.int .i64 0) := by rw [and_i64]; rfl
theorem an_18_2 : binV .and (.int .i64 18) (.int .i64 2) = some (.int .i64 2) := by rw [and_i64]; rfl
theorem an_18_4 : binV .and (.int .i64 18) (.int .i64 4) = some (.int .i64 0) := by rw [and_i64]; rfl
theorem an_18_8 : binV .and (.int .i64 18) (.int .i64 8) = some (.int .i64 0) := by rw [and_i64]; rfl
theorem an_18_16 : binV .and (.int .i64 18) (.int .i64 16) = some (.int .i64 16) := by rw [and_i64]; rfl
theorem an_18_32 : binV .and (.int .i64 18) (.int .i64 32) = some (.int .i64 0) := by rw [and_i64]; rfl
theorem an_19_1 : binV .and (.int .i64 19) (.int .i64 1) = some (.int .i64 1) := by rw [and_i64]; rfl
theorem an_19_2 : binV .and (.int .i64 19) (.int .i64 2) = some (.int .i64 2) := by rw [and_i64]; rfl
theorem an_19_4 : binV .and (.int .i64 19) (.int .i64 4) = some (.int .i64 0) := by rw [and_i64]; rfl
theorem an_19_8 : binV .and (.int .i64 19) (.int .i64 8) = some (.int .i64 0) := by rw [and_i64]; rfl
theorem an_19_16 : binV .and (.int .i64 19) (.int .i64 16) = some (.int .i64 16) := by rw [and_i64]; rfl
theorem an_19_32 : binV .and (.int .i64 19) (.int .i64 32) = some (.int .i64 0) := by rw [and_i64]; rfl
theorem an_32_1 : binV .and (.int .i64 32) (.int .i64 1) = some (.int .i64 0) := by rw [and_i64]; rfl
theorem an_32_2 : binV .and (.int .i64 32) (.int .i64 2) = some (.int .i64 0) := by rw [and_i64]; rfl
theorem an_32_4 : binV .and (.int .i64 32) (.int .i64 4) = some (.int .i64 0) := by rw [and_i64]; rfl
theorem an_32_8 : binV .and (.int .i64 32) (.int .i64 8) = some (.int .i64 0) := by rw [and_i64]; rfl
theorem an_32_16 : binV .and (.int .i64 32) (.int .i64 16) = some (.int .i64 0) := by rw [and_i64]; rfl
theorem an_32_32 : binV .and (.int .i64 32) (.int .i64 32) = some (.int .i64 32) := by rw [and_i64]; rfl
theorem dec_with (hk : 0 ≤ k ∧ k ≤ 77) : WC T n_decode_with [.int .i64 k, u32 w] h fun v h' => v = .agg (encIns.enc (dwith k w)).toArray ∧ Kp h h' := by
  have hf := fun h q => dec_fields (h := h) (q := q) hk
  rw [w_decode_with]
  rcases dfld_cases hk with e | e | e | e | e | e | e | e | e | e | e | e
  · have hd : dwith k w = ⟨k, 0, 0, 0, 0, 0#32⟩ := by unfold dwith; rw [e]; simp (config := {decide := true}) only [if_true, if_false, Bool.false_eq_true]
    rw [e] at hf
    simp (maxSteps := 1000000) (disch := first | assumption | ((try simp only [push_next, put_next, adv_next, List.length_cons, List.length_nil, List.length_map, List.length_set]); omega) | simp) [GC_of (hf _), an_0_1, an_0_2, an_0_4, an_0_8, an_0_16, an_0_32, hd, encIns]
  · have hd : dwith k w = ⟨k, ((w >>> 21 &&& 31#32).toNat : Int), 0, 0, 0, 0#32⟩ := by unfold dwith; rw [e]; simp (config := {decide := true}) only [if_true, if_false, Bool.false_eq_true]
    rw [e] at hf
    simp (maxSteps := 1000000) (disch := first | assumption | ((try simp only [push_next, put_next, adv_next, List.length_cons, List.length_nil, List.length_map, List.length_set]); omega) | simp) [GC_of (hf _), an_1_1, an_1_2, an_1_4, an_1_8, an_1_16, an_1_32, hd, encIns]
  · have hd : dwith k w = ⟨k, ((w >>> 21 &&& 31#32).toNat : Int), ((w >>> 16 &&& 31#32).toNat : Int), 0, 0, 0#32⟩ := by unfold dwith; rw [e]; simp (config := {decide := true}) only [if_true, if_false, Bool.false_eq_true]
    rw [e] at hf
    simp (maxSteps := 1000000) (disch := first | assumption | ((try simp only [push_next, put_next, adv_next, List.length_cons, List.length_nil, List.length_map, List.length_set]); omega) | simp) [GC_of (hf _), an_3_1, an_3_2, an_3_4, an_3_8, an_3_16, an_3_32, hd, encIns]
  · have hd : dwith k w = ⟨k, 0, 0, ((w >>> 11 &&& 31#32).toNat : Int), 0, 0#32⟩ := by unfold dwith; rw [e]; simp (config := {decide := true}) only [if_true, if_false, Bool.false_eq_true]
    rw [e] at hf
    simp (maxSteps := 1000000) (disch := first | assumption | ((try simp only [push_next, put_next, adv_next, List.length_cons, List.length_nil, List.length_map, List.length_set]); omega) | simp) [GC_of (hf _), an_4_1, an_4_2, an_4_4, an_4_8, an_4_16, an_4_32, hd, encIns]
  · have hd : dwith k w = ⟨k, ((w >>> 21 &&& 31#32).toNat : Int), 0, ((w >>> 11 &&& 31#32).toNat : Int), 0, 0#32⟩ := by unfold dwith; rw [e]; simp (config := {decide := true}) only [if_true, if_false, Bool.false_eq_true]
    rw [e] at hf
    simp (maxSteps := 1000000) (disch := first | assumption | ((try simp only [push_next, put_next, adv_next, List.length_cons, List.length_nil, List.length_map, List.length_set]); omega) | simp) [GC_of (hf _), an_5_1, an_5_2, an_5_4, an_5_8, an_5_16, an_5_32, hd, encIns]
  · have hd : dwith k w = ⟨k, 0, ((w >>> 16 &&& 31#32).toNat : Int), ((w >>> 11 &&& 31#32).toNat : Int), 0, 0#32⟩ := by unfold dwith; rw [e]; simp (config := {decide := true}) only [if_true, if_false, Bool.false_eq_true]
    rw [e] at hf
    simp (maxSteps := 1000000) (disch := first | assumption | ((try simp only [push_next, put_next, adv_next, List.length_cons, List.length_nil, List.length_map, List.length_set]); omega) | simp) [GC_of (hf _), an_6_1, an_6_2, an_6_4, an_6_8, an_6_16, an_6_32, hd, encIns]
  · have hd : dwith k w = ⟨k, ((w >>> 21 &&& 31#32).toNat : Int), ((w >>> 16 &&& 31#32).toNat : Int), ((w >>> 11 &&& 31#32).toNat : Int), 0, 0#32⟩ := by unfold dwith; rw [e]; simp (config := {decide := true}) only [if_true, if_false, Bool.false_eq_true]
    rw [e] at hf
    simp (maxSteps := 1000000) (disch := first | assumption | ((try simp only [push_next, put_next, adv_next, List.length_cons, List.length_nil, List.length_map, List.length_set]); omega) | simp) [GC_of (hf _), an_7_1, an_7_2, an_7_4, an_7_8, an_7_16, an_7_32, hd, encIns]
  · have hd : dwith k w = ⟨k, 0, ((w >>> 16 &&& 31#32).toNat : Int), ((w >>> 11 &&& 31#32).toNat : Int), ((w >>> 6 &&& 31#32).toNat : Int), 0#32⟩ := by unfold dwith; rw [e]; simp (config := {decide := true}) only [if_true, if_false, Bool.false_eq_true]
    rw [e] at hf
    simp (maxSteps := 1000000) (disch := first | assumption | ((try simp only [push_next, put_next, adv_next, List.length_cons, List.length_nil, List.length_map, List.length_set]); omega) | simp) [GC_of (hf _), an_14_1, an_14_2, an_14_4, an_14_8, an_14_16, an_14_32, hd, encIns]
  · have hd : dwith k w = ⟨k, ((w >>> 21 &&& 31#32).toNat : Int), 0, 0, 0, w &&& 65535#32⟩ := by unfold dwith; rw [e]; simp (config := {decide := true}) only [if_true, if_false, Bool.false_eq_true]
    rw [e] at hf
    simp (maxSteps := 1000000) (disch := first | assumption | ((try simp only [push_next, put_next, adv_next, List.length_cons, List.length_nil, List.length_map, List.length_set]); omega) | simp) [GC_of (hf _), an_17_1, an_17_2, an_17_4, an_17_8, an_17_16, an_17_32, hd, encIns]
  · have hd : dwith k w = ⟨k, 0, ((w >>> 16 &&& 31#32).toNat : Int), 0, 0, w &&& 65535#32⟩ := by unfold dwith; rw [e]; simp (config := {decide := true}) only [if_true, if_false, Bool.false_eq_true]
    rw [e] at hf
    simp (maxSteps := 1000000) (disch := first | assumption | ((try simp only [push_next, put_next, adv_next, List.length_cons, List.length_nil, List.length_map, List.length_set]); omega) | simp) [GC_of (hf _), an_18_1, an_18_2, an_18_4, an_18_8, an_18_16, an_18_32, hd, encIns]
  · have hd : dwith k w = ⟨k, ((w >>> 21 &&& 31#32).toNat : Int), ((w >>> 16 &&& 31#32).toNat : Int), 0, 0, w &&& 65535#32⟩ := by unfold dwith; rw [e]; simp (config := {decide := true}) only [if_true, if_false, Bool.false_eq_true]
    rw [e] at hf
    simp (maxSteps := 1000000) (disch := first | assumption | ((try simp only [push_next, put_next, adv_next, List.length_cons, List.length_nil, List.length_map, List.length_set]); omega) | simp) [GC_of (hf _), an_19_1, an_19_2, an_19_4, an_19_8, an_19_16, an_19_32, hd, encIns]
  · have hd : dwith k w = ⟨k, 0, 0, 0, 0, w &&& 67108863#32⟩ := by unfold dwith; rw [e]; simp (config := {decide := true}) only [if_true, if_false, Bool.false_eq_true]
    rw [e] at hf
    simp (maxSteps := 1000000) (disch := first | assumption | ((try simp only [push_next, put_next, adv_next, List.length_cons, List.length_nil, List.length_map, List.length_set]); omega) | simp) [GC_of (hf _), an_32_1, an_32_2, an_32_4, an_32_8, an_32_16, an_32_32, hd, encIns]
theorem dec_of : WC T n_decode_Of [u32 w] h fun v h' => v = .agg (encIns.enc (dOf w)).toArray ∧ Kp h h' := by
  have h1 := fun h q => dec_kind (h := h) (q := q) (w := w)
  rw [w_decode_Of]
  simp (maxSteps := 1000000) (disch := first | assumption | ((try simp only [push_next, put_next, adv_next, List.length_cons, List.length_nil, List.length_map, List.length_set]); omega) | simp) [GC_of (h1 _)]
  refine GC_intro (dec_with (w := w) (dkind_bd w)) fun v h2 ⟨hv, K⟩ => ?_
  subst hv
  have g2 := K.get h.next (by simp)
  rw [get_push_self] at g2
  have n2 := K.le
  have K0 : Kp h h2 := ((Kp.refl h).push _).trans K
  simp only [push_next] at n2
  have hl : h.next < h2.next := by omega
  simp (maxSteps := 1000000) (disch := first | assumption | ((try simp only [push_next, put_next, adv_next, List.length_cons, List.length_nil, List.length_map, List.length_set]); omega) | simp) [encIns, dOf, g2, hl]
end
end Go.Proofs.YtmgoleiafiffoaaGreat.Cd

/- decode: classes, fields put together, right or not. -/
set_option maxRecDepth 1000000
set_option maxHeartbeats 8000000
set_option linter.unusedSimpArgs false
set_option linter.unusedVariables false
namespace Go.Proofs.YtmgoleiafiffoaaGreat.Cd
open Go Go.Dx
section
variable {h : Hp} {q : Value → Hp → Prop} {w : BitVec 32} {k : Int} {i : Ins}
theorem dec_classN {n : Nat} {s t d sh : Int} {m : BitVec 32} (hn : n < 78) : WC T n_decode_Class [.agg (encIns.enc ⟨n, s, t, d, sh, m⟩).toArray] h q ↔ q (.int .i64 (dcls n)) (h.push (.cells false (encIns.enc ⟨n, s, t, d, sh, m⟩))) := by
  rw [w_decode_Class]
  rcases (by omega : n = 0 ∨ n = 1 ∨ n = 2 ∨ n = 3 ∨ n = 4 ∨ n = 5 ∨ n = 6 ∨ n = 7 ∨ n = 8 ∨ n = 9 ∨ n = 10 ∨ n = 11 ∨ n = 12 ∨ n = 13 ∨ n = 14 ∨ n = 15 ∨ n = 16 ∨ n = 17 ∨ n = 18 ∨ n = 19 ∨ n = 20 ∨ n = 21 ∨ n = 22 ∨ n = 23 ∨ n = 24 ∨ n = 25 ∨ n = 26 ∨ n = 27 ∨ n = 28 ∨ n = 29 ∨ n = 30 ∨ n = 31 ∨ n = 32 ∨ n = 33 ∨ n = 34 ∨ n = 35 ∨ n = 36 ∨ n = 37 ∨ n = 38 ∨ n = 39 ∨ n = 40 ∨ n = 41 ∨ n = 42 ∨ n = 43 ∨ n = 44 ∨ n = 45 ∨ n = 46 ∨ n = 47 ∨ n = 48 ∨ n = 49 ∨ n = 50 ∨ n = 51 ∨ n = 52 ∨ n = 53 ∨ n = 54 ∨ n = 55 ∨ n = 56 ∨ n = 57 ∨ n = 58 ∨ n = 59 ∨ n = 60 ∨ n = 61 ∨ n = 62 ∨ n = 63 ∨ n = 64 ∨ n = 65 ∨ n = 66 ∨ n = 67 ∨ n = 68 ∨ n = 69 ∨ n = 70 ∨ n = 71 ∨ n = 72 ∨ n = 73 ∨ n = 74 ∨ n = 75 ∨ n = 76 ∨ n = 77) with rfl | rfl | rfl | rfl | rfl | rfl | rfl | rfl | rfl | rfl | rfl | rfl | rfl | rfl | rfl | rfl | rfl | rfl | rfl | rfl | rfl | rfl | rfl | rfl | rfl | rfl | rfl | rfl | rfl | rfl | rfl | rfl | rfl | rfl | rfl | rfl | rfl | rfl | rfl | rfl | rfl | rfl | rfl | rfl | rfl | rfl | rfl | rfl | rfl | rfl | rfl | rfl | rfl | rfl | rfl | rfl | rfl | rfl | rfl | rfl | rfl | rfl | rfl | rfl | rfl | rfl | rfl | rfl | rfl | rfl | rfl | rfl | rfl | rfl | rfl | rfl | rfl | rfl <;> simp (maxSteps := 1000000) (disch := first | assumption | ((try simp only [push_next, put_next, adv_next, List.length_cons, List.length_nil, List.length_map, List.length_set]); omega) | simp) [encIns, dcls, clTab]
theorem dec_class (hk : 0 ≤ i.k ∧ i.k ≤ 77) : WC T n_decode_Class [.agg (encIns.enc i).toArray] h q ↔ q (.int .i64 (dcls i.k)) (h.push (.cells false (encIns.enc i))) := by
  obtain ⟨k, s, t, d, sh, m⟩ := i
  obtain ⟨n, rfl⟩ : ∃ n : Nat, k = n := ⟨k.toNat, by simp at hk; omega⟩
  exact dec_classN (by simp at hk; omega)
theorem dec_put : WC T n_decode_put [.agg (encIns.enc i).toArray] h q ↔ q (u32 (dput i)) (h.push (.cells false (encIns.enc i))) := by
  rw [w_decode_put]
  simp (maxSteps := 1000000) (disch := first | assumption | ((try simp only [push_next, put_next, adv_next, List.length_cons, List.length_nil, List.length_map, List.length_set]); omega) | simp) [encIns, dput]
end
end Go.Proofs.YtmgoleiafiffoaaGreat.Cd

/- decode: an instruction that a word is, is right. -/
set_option maxRecDepth 1000000
set_option maxHeartbeats 8000000
set_option linter.unusedSimpArgs false
set_option linter.unusedVariables false
namespace Go.Proofs.YtmgoleiafiffoaaGreat.Cd
open Go Go.Dx
section
variable {h : Hp} {q : Value → Hp → Prop} {w : BitVec 32} {k : Int} {i : Ins}
theorem eq_ins (x y : Ins) : eqV (.agg [(0, 1, false, (.int .i64)), (1, 1, false, (.int .i64)), (2, 1, false, (.int .i64)), (3, 1, false, (.int .i64)), (4, 1, false, (.int .i64)), (5, 1, false, (.int .u32))]) (.agg (encIns.enc x).toArray) (.agg (encIns.enc y).toArray) = some (decide (x = y)) := by
  obtain ⟨a1, a2, a3, a4, a5, a6⟩ := x
  obtain ⟨b1, b2, b3, b4, b5, b6⟩ := y
  simp only [eqV, eqAt, encIns, eqParts]
  simp
  by_cases h1 : a1 = b1
  · by_cases h2 : a2 = b2
    · by_cases h3 : a3 = b3
      · by_cases h4 : a4 = b4
        · by_cases h5 : a5 = b5
          · by_cases h6 : a6 = b6 <;> simp [h1, h2, h3, h4, h5, h6]
          · simp [h1, h2, h3, h4, h5]
        · simp [h1, h2, h3, h4]
      · simp [h1, h2, h3]
    · simp [h1, h2]
  · simp [h1]
theorem eq_ins6 {a1 a2 a3 a4 a5 b1 b2 b3 b4 b5 : Int} {a6 b6 : BitVec 32} : eqV (.agg [(0, 1, false, (.int .i64)), (1, 1, false, (.int .i64)), (2, 1, false, (.int .i64)), (3, 1, false, (.int .i64)), (4, 1, false, (.int .i64)), (5, 1, false, (.int .u32))]) (.agg #[.int .i64 a1, .int .i64 a2, .int .i64 a3, .int .i64 a4, .int .i64 a5, u32 a6]) (.agg #[.int .i64 b1, .int .i64 b2, .int .i64 b3, .int .i64 b4, .int .i64 b5, u32 b6]) = some (decide ((⟨a1, a2, a3, a4, a5, a6⟩ : Ins) = ⟨b1, b2, b3, b4, b5, b6⟩)) := eq_ins ⟨a1, a2, a3, a4, a5, a6⟩ ⟨b1, b2, b3, b4, b5, b6⟩
theorem dec_right : WC T n_decode_Right [.agg (encIns.enc (dOf w)).toArray] h fun v h' => v = .bool (decide ((dOf w).k ≠ 0)) ∧ Kp h h' := by
  obtain ⟨hk, hs, ht, hd, hh, hm⟩ := dOf_bd w
  have hp := dOf_put w
  have hi : (dOf w).imm ≤ 67108863#32 := by rw [BitVec.le_def]; simpa using hm
  generalize dOf w = i at *
  obtain ⟨k, s, t, d, sh, m⟩ := i
  simp only at hk hs ht hd hh hm hi hp
  have hw := fun h => dec_with (h := h) (w := dput ⟨k, s, t, d, sh, m⟩) hk
  rw [hp] at hw
  have hq := fun h q => dec_put (h := h) (q := q) (i := ⟨k, s, t, d, sh, m⟩)
  simp only [encIns] at hq hw
  generalize dput ⟨k, s, t, d, sh, m⟩ = p at *
  have s0 : ¬ s < 0 := by omega
  have s1 : ¬ 31 < s := by omega
  have t0 : ¬ t < 0 := by omega
  have t1 : ¬ 31 < t := by omega
  have d0 : ¬ d < 0 := by omega
  have d1 : ¬ 31 < d := by omega
  have h0 : ¬ sh < 0 := by omega
  have h1 : ¬ 31 < sh := by omega
  have k1 : k < 78 := by omega
  rw [w_decode_Right]
  simp (maxSteps := 1000000) (disch := first | assumption | ((try simp only [push_next, put_next, adv_next, List.length_cons, List.length_nil, List.length_map, List.length_set]); omega) | simp) [encIns]
  rw [G_round]
  simp (maxSteps := 1000000) (disch := first | assumption | ((try simp only [push_next, put_next, adv_next, List.length_cons, List.length_nil, List.length_map, List.length_set]); omega) | simp) [s0, s1]
  rw [G_round]
  simp (maxSteps := 1000000) (disch := first | assumption | ((try simp only [push_next, put_next, adv_next, List.length_cons, List.length_nil, List.length_map, List.length_set]); omega) | simp) [t0, t1]
  rw [G_round]
  simp (maxSteps := 1000000) (disch := first | assumption | ((try simp only [push_next, put_next, adv_next, List.length_cons, List.length_nil, List.length_map, List.length_set]); omega) | simp) [d0, d1]
  rw [G_round]
  simp (maxSteps := 1000000) (disch := first | assumption | ((try simp only [push_next, put_next, adv_next, List.length_cons, List.length_nil, List.length_map, List.length_set]); omega) | simp) [h0, h1]
  rw [G_round]
  by_cases k0 : k = 0
  · subst k0
    simp (maxSteps := 1000000) (disch := first | assumption | ((try simp only [push_next, put_next, adv_next, List.length_cons, List.length_nil, List.length_map, List.length_set]); omega) | simp)
  · have k2 : 0 < k := by omega
    simp (maxSteps := 1000000) (disch := first | assumption | ((try simp only [push_next, put_next, adv_next, List.length_cons, List.length_nil, List.length_map, List.length_set]); omega) | simp) [k0, k1, k2, hi, GC_of (hq _), GCI_of (hq _)]
    refine GCI_intro (hw _) fun v h2 ⟨hv, K⟩ => ?_
    subst hv
    have g2 : h2.get h.next = some (.cells false [.int .i64 k, .int .i64 s, .int .i64 t, .int .i64 d, .int .i64 sh, u32 m]) := by
      rw [K.get h.next (by simp; omega)]
      simp (maxSteps := 1000000) (disch := first | assumption | ((try simp only [push_next, put_next, adv_next, List.length_cons, List.length_nil, List.length_map, List.length_set]); omega) | simp) []
    have r2 := rdn_all (n := 6) g2 rfl
    have K0 : Kp h h2 := Kp.trans (by simp (maxSteps := 1000000) (disch := first | assumption | ((try simp only [push_next, put_next, adv_next, List.length_cons, List.length_nil, List.length_map, List.length_set]); omega) | simp) []) K
    simp (maxSteps := 1000000) (disch := first | assumption | ((try simp only [push_next, put_next, adv_next, List.length_cons, List.length_nil, List.length_map, List.length_set]); omega) | simp) [r2, eq_ins6]
    exact K0
end
end Go.Proofs.YtmgoleiafiffoaaGreat.Cd

/- lift: kinds, numbers. -/
set_option maxRecDepth 1000000
set_option maxHeartbeats 8000000
set_option linter.unusedSimpArgs false
set_option linter.unusedVariables false
namespace Go.Proofs.YtmgoleiafiffoaaGreat.Cd
open Go Go.Dx
section
variable {h : Hp} {q : Value → Hp → Prop} {w : BitVec 32} {k : Int} {i : Ins}
theorem lift_kindN {n : Nat} (hn : n < 78) : WC T n_lift_kind [.int .i64 (n : Int)] h q ↔ q (.int .i64 (lkd n)) h := by
  rw [w_lift_kind]
  rcases (by omega : n = 0 ∨ n = 1 ∨ n = 2 ∨ n = 3 ∨ n = 4 ∨ n = 5 ∨ n = 6 ∨ n = 7 ∨ n = 8 ∨ n = 9 ∨ n = 10 ∨ n = 11 ∨ n = 12 ∨ n = 13 ∨ n = 14 ∨ n = 15 ∨ n = 16 ∨ n = 17 ∨ n = 18 ∨ n = 19 ∨ n = 20 ∨ n = 21 ∨ n = 22 ∨ n = 23 ∨ n = 24 ∨ n = 25 ∨ n = 26 ∨ n = 27 ∨ n = 28 ∨ n = 29 ∨ n = 30 ∨ n = 31 ∨ n = 32 ∨ n = 33 ∨ n = 34 ∨ n = 35 ∨ n = 36 ∨ n = 37 ∨ n = 38 ∨ n = 39 ∨ n = 40 ∨ n = 41 ∨ n = 42 ∨ n = 43 ∨ n = 44 ∨ n = 45 ∨ n = 46 ∨ n = 47 ∨ n = 48 ∨ n = 49 ∨ n = 50 ∨ n = 51 ∨ n = 52 ∨ n = 53 ∨ n = 54 ∨ n = 55 ∨ n = 56 ∨ n = 57 ∨ n = 58 ∨ n = 59 ∨ n = 60 ∨ n = 61 ∨ n = 62 ∨ n = 63 ∨ n = 64 ∨ n = 65 ∨ n = 66 ∨ n = 67 ∨ n = 68 ∨ n = 69 ∨ n = 70 ∨ n = 71 ∨ n = 72 ∨ n = 73 ∨ n = 74 ∨ n = 75 ∨ n = 76 ∨ n = 77) with rfl | rfl | rfl | rfl | rfl | rfl | rfl | rfl | rfl | rfl | rfl | rfl | rfl | rfl | rfl | rfl | rfl | rfl | rfl | rfl | rfl | rfl | rfl | rfl | rfl | rfl | rfl | rfl | rfl | rfl | rfl | rfl | rfl | rfl | rfl | rfl | rfl | rfl | rfl | rfl | rfl | rfl | rfl | rfl | rfl | rfl | rfl | rfl | rfl | rfl | rfl | rfl | rfl | rfl | rfl | rfl | rfl | rfl | rfl | rfl | rfl | rfl | rfl | rfl | rfl | rfl | rfl | rfl | rfl | rfl | rfl | rfl | rfl | rfl | rfl | rfl | rfl | rfl <;> simp (maxSteps := 1000000) (disch := first | assumption | ((try simp only [push_next, put_next, adv_next, List.length_cons, List.length_nil, List.length_map, List.length_set]); omega) | simp) [lkd, lkTab]
theorem lift_kind (hk : 0 ≤ k ∧ k ≤ 77) : WC T n_lift_kind [.int .i64 k] h q ↔ q (.int .i64 (lkd k)) h := by
  obtain ⟨n, rfl⟩ : ∃ n : Nat, k = n := ⟨k.toNat, by omega⟩
  exact lift_kindN (by omega)
theorem word_sign : WC T n_word_Sign [u32 w, .int .i64 16] h q ↔ q (u32 (sxt w)) h := by
  rw [w_word_Sign]
  have h16 : binV .shl (u32 w) (.int .i64 16) = some (u32 (w <<< 16)) := by simpa using shl_u32_n w .i64 16
  simp (maxSteps := 1000000) (disch := first | assumption | ((try simp only [push_next, put_next, adv_next, List.length_cons, List.length_nil, List.length_map, List.length_set]); omega) | simp) [h16, GC_of (fun q => word_sar (h := h) (q := q) (a := w <<< 16) (n := 16)), sxt]
theorem lift_imm : WC T n_lift_imm [.agg (encIns.enc i).toArray] h q ↔ q (u32 (limm i)) (h.push (.cells false (encIns.enc i))) := by
  rw [w_lift_imm]
  unfold limm
  have hs := fun h q => word_sign (h := h) (q := q) (w := i.imm)
  by_cases c1 : i.k = 50
  · simp (maxSteps := 1000000) (disch := first | assumption | ((try simp only [push_next, put_next, adv_next, List.length_cons, List.length_nil, List.length_map, List.length_set]); omega) | simp) [encIns, c1]
  by_cases c2 : i.k = 51
  · simp (maxSteps := 1000000) (disch := first | assumption | ((try simp only [push_next, put_next, adv_next, List.length_cons, List.length_nil, List.length_map, List.length_set]); omega) | simp) [encIns, c1, c2]
  by_cases c3 : i.k = 52
  · simp (maxSteps := 1000000) (disch := first | assumption | ((try simp only [push_next, put_next, adv_next, List.length_cons, List.length_nil, List.length_map, List.length_set]); omega) | simp) [encIns, c1, c2, c3]
  simp (maxSteps := 1000000) (disch := first | assumption | ((try simp only [push_next, put_next, adv_next, List.length_cons, List.length_nil, List.length_map, List.length_set]); omega) | simp) [encIns, c1, c2, c3, GC_of (hs _)]
theorem alu_IsN {n : Nat} (hn : n < 78) : WC T n_alu_Is [.int .i64 (n : Int)] h q ↔ q (.bool (aIs n)) h := by
  rw [w_alu_Is]
  rcases (by omega : n = 0 ∨ n = 1 ∨ n = 2 ∨ n = 3 ∨ n = 4 ∨ n = 5 ∨ n = 6 ∨ n = 7 ∨ n = 8 ∨ n = 9 ∨ n = 10 ∨ n = 11 ∨ n = 12 ∨ n = 13 ∨ n = 14 ∨ n = 15 ∨ n = 16 ∨ n = 17 ∨ n = 18 ∨ n = 19 ∨ n = 20 ∨ n = 21 ∨ n = 22 ∨ n = 23 ∨ n = 24 ∨ n = 25 ∨ n = 26 ∨ n = 27 ∨ n = 28 ∨ n = 29 ∨ n = 30 ∨ n = 31 ∨ n = 32 ∨ n = 33 ∨ n = 34 ∨ n = 35 ∨ n = 36 ∨ n = 37 ∨ n = 38 ∨ n = 39 ∨ n = 40 ∨ n = 41 ∨ n = 42 ∨ n = 43 ∨ n = 44 ∨ n = 45 ∨ n = 46 ∨ n = 47 ∨ n = 48 ∨ n = 49 ∨ n = 50 ∨ n = 51 ∨ n = 52 ∨ n = 53 ∨ n = 54 ∨ n = 55 ∨ n = 56 ∨ n = 57 ∨ n = 58 ∨ n = 59 ∨ n = 60 ∨ n = 61 ∨ n = 62 ∨ n = 63 ∨ n = 64 ∨ n = 65 ∨ n = 66 ∨ n = 67 ∨ n = 68 ∨ n = 69 ∨ n = 70 ∨ n = 71 ∨ n = 72 ∨ n = 73 ∨ n = 74 ∨ n = 75 ∨ n = 76 ∨ n = 77) with rfl | rfl | rfl | rfl | rfl | rfl | rfl | rfl | rfl | rfl | rfl | rfl | rfl | rfl | rfl | rfl | rfl | rfl | rfl | rfl | rfl | rfl | rfl | rfl | rfl | rfl | rfl | rfl | rfl | rfl | rfl | rfl | rfl | rfl | rfl | rfl | rfl | rfl | rfl | rfl | rfl | rfl | rfl | rfl | rfl | rfl | rfl | rfl | rfl | rfl | rfl | rfl | rfl | rfl | rfl | rfl | rfl | rfl | rfl | rfl | rfl | rfl | rfl | rfl | rfl | rfl | rfl | rfl | rfl | rfl | rfl | rfl | rfl | rfl | rfl | rfl | rfl | rfl <;> simp (maxSteps := 1000000) (disch := first | assumption | ((try simp only [push_next, put_next, adv_next, List.length_cons, List.length_nil, List.length_map, List.length_set]); omega) | simp) [aIs]
theorem alu_is (hk : 0 ≤ k ∧ k ≤ 77) : WC T n_alu_Is [.int .i64 k] h q ↔ q (.bool (aIs k)) h := by
  obtain ⟨n, rfl⟩ : ∃ n : Nat, k = n := ⟨k.toNat, by omega⟩
  exact alu_IsN (by omega)
theorem alu_into (hk : 0 ≤ i.k ∧ i.k ≤ 77) : WC T n_alu_Into [.agg (encIns.enc i).toArray] h q ↔ q (.int .i64 (aInto i)) (h.push (.cells false (encIns.enc i))) := by
  rw [w_alu_Into]
  unfold aInto
  have hi := fun h q => alu_is (h := h) (q := q) hk
  cases c1 : aIs i.k with
  | false => simp (maxSteps := 1000000) (disch := first | assumption | ((try simp only [push_next, put_next, adv_next, List.length_cons, List.length_nil, List.length_map, List.length_set]); omega) | simp) [encIns, c1, GC_of (hi _)]
  | true =>
    by_cases c2 : 46 ≤ i.k
    · by_cases c3 : i.k ≤ 53
      · simp (maxSteps := 1000000) (disch := first | assumption | ((try simp only [push_next, put_next, adv_next, List.length_cons, List.length_nil, List.length_map, List.length_set]); omega) | simp) [encIns, c1, c2, c3, GC_of (hi _)]
      · simp (maxSteps := 1000000) (disch := first | assumption | ((try simp only [push_next, put_next, adv_next, List.length_cons, List.length_nil, List.length_map, List.length_set]); omega) | simp) [encIns, c1, c2, c3, GC_of (hi _)]
    · simp (maxSteps := 1000000) (disch := first | assumption | ((try simp only [push_next, put_next, adv_next, List.length_cons, List.length_nil, List.length_map, List.length_set]); omega) | simp) [encIns, c1, c2, GC_of (hi _)]
theorem lift_is : WC T n_lift_Is [.agg (encIns.enc (dOf w)).toArray] h fun v h' => v = .bool (decide ((dOf w).k ≠ 0) && decide (dcls (dOf w).k = 1)) ∧ Kp h h' := by
  have hk := (dOf_bd w).1
  rw [w_lift_Is]
  simp (maxSteps := 1000000) (disch := first | assumption | ((try simp only [push_next, put_next, adv_next, List.length_cons, List.length_nil, List.length_map, List.length_set]); omega) | simp) [encIns]
  have hr := fun h => dec_right (h := h) (w := w)
  simp only [encIns] at hr
  refine GC_intro (hr _) fun v h1 ⟨hv, K1⟩ => ?_
  subst hv
  have g1 : h1.get h.next = some (.cells false [.int .i64 (dOf w).k, .int .i64 (dOf w).s, .int .i64 (dOf w).t, .int .i64 (dOf w).d, .int .i64 (dOf w).sh, u32 (dOf w).imm]) := by
    rw [K1.get h.next (by simp)]
    simp (maxSteps := 1000000) (disch := first | assumption | ((try simp only [push_next, put_next, adv_next, List.length_cons, List.length_nil, List.length_map, List.length_set]); omega) | simp) []
  have r1 := rdn_all (n := 6) g1 rfl
  have K0 : Kp h h1 := Kp.trans (by simp (maxSteps := 1000000) (disch := first | assumption | ((try simp only [push_next, put_next, adv_next, List.length_cons, List.length_nil, List.length_map, List.length_set]); omega) | simp) []) K1
  have hc := fun q => dec_class (h := h1) (q := q) hk
  simp only [encIns] at hc
  by_cases k0 : (dOf w).k = 0
  · simp (maxSteps := 1000000) (disch := first | assumption | ((try simp only [push_next, put_next, adv_next, List.length_cons, List.length_nil, List.length_map, List.length_set]); omega) | simp) [k0]
    exact K0
  · by_cases k1 : dcls (dOf w).k = 1
    · simp (maxSteps := 1000000) (disch := first | assumption | ((try simp only [push_next, put_next, adv_next, List.length_cons, List.length_nil, List.length_map, List.length_set]); omega) | simp) [k0, k1, r1, GC_of hc]
    · simp (maxSteps := 1000000) (disch := first | assumption | ((try simp only [push_next, put_next, adv_next, List.length_cons, List.length_nil, List.length_map, List.length_set]); omega) | simp) [k0, k1, r1, GC_of hc]
end
end Go.Proofs.YtmgoleiafiffoaaGreat.Cd

/- The document's words of instructions, as they are drawn: that they come. -/
set_option maxRecDepth 1000000
set_option maxHeartbeats 8000000
set_option linter.unusedSimpArgs false
set_option linter.unusedVariables false
namespace Go.Proofs.YtmgoleiafiffoaaGreat.Cd
open Go Go.Dx
def isT (v : Value) : Prop := ∃ (w : BitVec 32) (t : Bool), v = .tuple #[u32 w, .bool t]
@[simp] theorem isT_t (w : BitVec 32) (t : Bool) : isT (.tuple #[u32 w, .bool t]) := ⟨w, t, rfl⟩
section
variable {h : Hp} {q : Value → Hp → Prop} {i : Ins}
theorem r_right : WC T n_pianolaref3_Right [.agg (encIns.enc i).toArray] h fun v h' => isB v ∧ Kp h h' := by
  rw [w_pianolaref3_Right]
  simp (maxSteps := 1000000) (disch := first | assumption | ((try simp only [push_next, put_next, adv_next, List.length_cons, List.length_nil, List.length_map, List.length_set]); omega) | simp) [encIns]
  generalize hP : Hp.push h _ = P
  have gP : P.get h.next = some (.cells false [.int .i64 i.k, .int .i64 i.s, .int .i64 i.t, .int .i64 i.d, .int .i64 i.sh, u32 i.imm]) := by rw [← hP]; exact get_push_self
  have KP : Kp h P := by rw [← hP]; exact (Kp.refl h).push _
  clear hP
  refine GC_intro r_find fun v h1 ⟨⟨r, t, hf, hv⟩, K1⟩ => ?_
  subst hv
  have g1 := (K1.get _ (lt_of_get gP)).trans gP
  have K0 := KP.trans K1
  have l1 := lt_of_get g1
  clear K1 KP gP
  cases t with
  | false => simp (maxSteps := 1000000) (disch := first | assumption | ((try simp only [push_next, put_next, adv_next, List.length_cons, List.length_nil, List.length_map, List.length_set]); omega) | simp) [encRw]
  | true =>
  simp (maxSteps := 1000000) (disch := first | assumption | ((try simp only [push_next, put_next, adv_next, List.length_cons, List.length_nil, List.length_map, List.length_set]); omega) | simp) [encRw]
  refine GC_intro (r_has hf) fun v h2 ⟨⟨t1, hv⟩, hh⟩ => ?_
  subst hv hh
  have most : ∀ e : Env, e 1 = ptr h.next 0 → e 5 = .string r.f → isW (e 6) → G T (fin [RV.t 2] (some []) h.next fun v h' => isB v ∧ Kp h h') c0_pianolaref3_Right [] e (h1.push (.cells false [.int .i64 r.op, .int .i64 r.sub, .int .i64 r.k, .string r.f])) := fun e e1 e5 ⟨mo, e6⟩ => by
    have K2 := K0.push (.cells false [.int .i64 r.op, .int .i64 r.sub, .int .i64 r.k, .string r.f])
    have g2 := (get_push_ne (h := h1) (o := .cells false [.int .i64 r.op, .int .i64 r.sub, .int .i64 r.k, .string r.f]) (b := h.next) (by omega)).trans g1
    generalize h1.push (.cells false [.int .i64 r.op, .int .i64 r.sub, .int .i64 r.k, .string r.f]) = h2 at *
    simp (maxSteps := 1000000) (disch := first | assumption | ((try simp only [push_next, put_next, adv_next, List.length_cons, List.length_nil, List.length_map, List.length_set]); omega) | simp) [e1, e5, g2]
    refine GCI_intro (r_has hf) fun v h3 ⟨⟨t2, hv⟩, hh⟩ => ?_
    subst hv hh
    simp (maxSteps := 1000000) (disch := first | assumption | ((try simp only [push_next, put_next, adv_next, List.length_cons, List.length_nil, List.length_map, List.length_set]); omega) | simp) [e1, e5, g2]
    refine GCI_intro r_small fun v h4 ⟨⟨t3, hv⟩, hh⟩ => ?_
    subst hv hh
    cases t3 with
    | false => simp (maxSteps := 1000000) (disch := first | assumption | ((try simp only [push_next, put_next, adv_next, List.length_cons, List.length_nil, List.length_map, List.length_set]); omega) | simp) [e1, e5, g2, K2]
    | true =>
    simp (maxSteps := 1000000) (disch := first | assumption | ((try simp only [push_next, put_next, adv_next, List.length_cons, List.length_nil, List.length_map, List.length_set]); omega) | simp) [e1, e5, g2]
    refine GCI_intro (r_has hf) fun v h3 ⟨⟨t2, hv⟩, hh⟩ => ?_
    subst hv hh
    simp (maxSteps := 1000000) (disch := first | assumption | ((try simp only [push_next, put_next, adv_next, List.length_cons, List.length_nil, List.length_map, List.length_set]); omega) | simp) [e1, e5, g2]
    refine GCI_intro r_small fun v h4 ⟨⟨t3, hv⟩, hh⟩ => ?_
    subst hv hh
    cases t3 with
    | false => simp (maxSteps := 1000000) (disch := first | assumption | ((try simp only [push_next, put_next, adv_next, List.length_cons, List.length_nil, List.length_map, List.length_set]); omega) | simp) [e1, e5, g2, K2]
    | true =>
    simp (maxSteps := 1000000) (disch := first | assumption | ((try simp only [push_next, put_next, adv_next, List.length_cons, List.length_nil, List.length_map, List.length_set]); omega) | simp) [e1, e5, g2]
    refine GCI_intro (r_has hf) fun v h3 ⟨⟨t2, hv⟩, hh⟩ => ?_
    subst hv hh
    simp (maxSteps := 1000000) (disch := first | assumption | ((try simp only [push_next, put_next, adv_next, List.length_cons, List.length_nil, List.length_map, List.length_set]); omega) | simp) [e1, e5, g2]
    refine GCI_intro r_small fun v h4 ⟨⟨t3, hv⟩, hh⟩ => ?_
    subst hv hh
    cases t3 with
    | false => simp (maxSteps := 1000000) (disch := first | assumption | ((try simp only [push_next, put_next, adv_next, List.length_cons, List.length_nil, List.length_map, List.length_set]); omega) | simp) [e1, e5, g2, K2]
    | true =>
    simp (maxSteps := 1000000) (disch := first | assumption | ((try simp only [push_next, put_next, adv_next, List.length_cons, List.length_nil, List.length_map, List.length_set]); omega) | simp) [e1, e5, g2]
    refine GCI_intro (r_has hf) fun v h3 ⟨⟨t2, hv⟩, hh⟩ => ?_
    subst hv hh
    simp (maxSteps := 1000000) (disch := first | assumption | ((try simp only [push_next, put_next, adv_next, List.length_cons, List.length_nil, List.length_map, List.length_set]); omega) | simp) [e1, e5, g2]
    refine GCI_intro r_small fun v h4 ⟨⟨t3, hv⟩, hh⟩ => ?_
    subst hv hh
    cases t3 with
    | false => simp (maxSteps := 1000000) (disch := first | assumption | ((try simp only [push_next, put_next, adv_next, List.length_cons, List.length_nil, List.length_map, List.length_set]); omega) | simp) [e1, e5, g2, K2]
    | true => simp (maxSteps := 1000000) (disch := first | assumption | ((try simp only [push_next, put_next, adv_next, List.length_cons, List.length_nil, List.length_map, List.length_set]); omega) | simp) [e1, e5, e6, g2, K2]
  cases t1 with
  | true =>
    simp (maxSteps := 1000000) (disch := first | assumption | ((try simp only [push_next, put_next, adv_next, List.length_cons, List.length_nil, List.length_map, List.length_set]); omega) | simp) [-g0_pianolaref3_Right]
    exact most _ (by simp) (by simp) (by simp)
  | false =>
    simp (maxSteps := 1000000) (disch := first | assumption | ((try simp only [push_next, put_next, adv_next, List.length_cons, List.length_nil, List.length_map, List.length_set]); omega) | simp) [-g0_pianolaref3_Right]
    refine GC_intro (r_has hf) fun v h2 ⟨⟨t1, hv⟩, hh⟩ => ?_
    subst hv hh
    cases t1 with
    | true =>
      simp (maxSteps := 1000000) (disch := first | assumption | ((try simp only [push_next, put_next, adv_next, List.length_cons, List.length_nil, List.length_map, List.length_set]); omega) | simp) [-g0_pianolaref3_Right]
      exact most _ (by simp) (by simp) (by simp)
    | false =>
      simp (maxSteps := 1000000) (disch := first | assumption | ((try simp only [push_next, put_next, adv_next, List.length_cons, List.length_nil, List.length_map, List.length_set]); omega) | simp) [-g0_pianolaref3_Right]
      exact most _ (by simp) (by simp) (by simp)
theorem r_word : WC T n_pianolaref3_Word [.agg (encIns.enc i).toArray] h fun v h' => isT v ∧ Kp h h' := by
  rw [w_pianolaref3_Word]
  simp (maxSteps := 1000000) (disch := first | assumption | ((try simp only [push_next, put_next, adv_next, List.length_cons, List.length_nil, List.length_map, List.length_set]); omega) | simp) [encIns]
  generalize hP : Hp.push h _ = P
  have gP : P.get h.next = some (.cells false [.int .i64 i.k, .int .i64 i.s, .int .i64 i.t, .int .i64 i.d, .int .i64 i.sh, u32 i.imm]) := by rw [← hP]; exact get_push_self
  have KP : Kp h P := by rw [← hP]; exact (Kp.refl h).push _
  clear hP
  have hr := fun h => r_right (h := h) (i := i)
  simp only [encIns] at hr
  refine GC_intro (hr _) fun v h1 ⟨⟨t, hv⟩, K1⟩ => ?_
  subst hv
  have g1 := (K1.get _ (lt_of_get gP)).trans gP
  have K0 := KP.trans K1
  clear K1 KP gP
  cases t with
  | false => simp (maxSteps := 1000000) (disch := first | assumption | ((try simp only [push_next, put_next, adv_next, List.length_cons, List.length_nil, List.length_map, List.length_set]); omega) | simp) [K0]
  | true =>
  simp (maxSteps := 1000000) (disch := first | assumption | ((try simp only [push_next, put_next, adv_next, List.length_cons, List.length_nil, List.length_map, List.length_set]); omega) | simp) [g1]
  refine GC_intro r_find fun v h2 ⟨⟨r, t, hf, hv⟩, K2⟩ => ?_
  subst hv
  have g2 := (K2.get _ (lt_of_get g1)).trans g1
  have K0 := K0.trans K2
  have l2 := lt_of_get g2
  clear K2 g1
  by_cases c1 : r.op = 0
  · simp (maxSteps := 1000000) (disch := first | assumption | ((try simp only [push_next, put_next, adv_next, List.length_cons, List.length_nil, List.length_map, List.length_set]); omega) | simp) [encRw, g2, c1, K0]
  by_cases c2 : r.op = 28
  · simp (maxSteps := 1000000) (disch := first | assumption | ((try simp only [push_next, put_next, adv_next, List.length_cons, List.length_nil, List.length_map, List.length_set]); omega) | simp) [encRw, g2, c1, c2, K0]
  by_cases c3 : r.op = 1
  · simp (maxSteps := 1000000) (disch := first | assumption | ((try simp only [push_next, put_next, adv_next, List.length_cons, List.length_nil, List.length_map, List.length_set]); omega) | simp) [encRw, g2, c1, c2, c3, K0]
  by_cases c4 : r.op = 16
  · by_cases c5 : 64 ≤ r.sub
    · simp (maxSteps := 1000000) (disch := first | assumption | ((try simp only [push_next, put_next, adv_next, List.length_cons, List.length_nil, List.length_map, List.length_set]); omega) | simp) [encRw, g2, c1, c2, c3, c4, c5, K0]
    · simp (maxSteps := 1000000) (disch := first | assumption | ((try simp only [push_next, put_next, adv_next, List.length_cons, List.length_nil, List.length_map, List.length_set]); omega) | simp) [encRw, g2, c1, c2, c3, c4, c5, K0]
  · simp (maxSteps := 1000000) (disch := first | assumption | ((try simp only [push_next, put_next, adv_next, List.length_cons, List.length_nil, List.length_map, List.length_set]); omega) | simp) [encRw, g2, c1, c2, c3, c4, K0]
theorem k_word : WC T n_pianolakeep_word [.agg (encIns.enc i).toArray] h fun v h' => isW v ∧ Kp h h' := by
  rw [w_pianolakeep_word]
  simp (maxSteps := 1000000) (disch := first | assumption | ((try simp only [push_next, put_next, adv_next, List.length_cons, List.length_nil, List.length_map, List.length_set]); omega) | simp) [encIns]
  generalize hP : Hp.push h _ = P
  have KP : Kp h P := by rw [← hP]; exact (Kp.refl h).push _
  clear hP
  have hr := fun h => r_word (h := h) (i := i)
  simp only [encIns] at hr
  refine GC_intro (hr _) fun v h1 ⟨⟨w, t, hv⟩, K1⟩ => ?_
  subst hv
  simp (maxSteps := 1000000) (disch := first | assumption | ((try simp only [push_next, put_next, adv_next, List.length_cons, List.length_nil, List.length_map, List.length_set]); omega) | simp)
  exact KP.trans K1
theorem k_near {n : Int} : WC T n_pianolakeep_near [.int .i64 n] h fun v h' => (∃ m : Int, v = .int .i64 m) ∧ h' = h := by
  have hw := fun q => within_eq (h := h) (q := q) (n := n) (lo := 0) (hi := 1048576) (by omega) (by omega) (by omega)
  obtain ⟨w1, w2⟩ := wi_bound (n := n) (lo := 0) (hi := 1048576) (by omega)
  rw [w_pianolakeep_near]
  simp (maxSteps := 1000000) (disch := first | assumption | ((try simp only [push_next, put_next, adv_next, List.length_cons, List.length_nil, List.length_map, List.length_set]); omega) | simp) [GC_of hw]
theorem k_only {f : Int} : WC T n_pianolakeep_only [.agg (encIns.enc i).toArray, .int .i64 f] h fun v h' => isI v ∧ Kp h h' := by
  rw [w_pianolakeep_only]
  by_cases c0 : f = 0
  · simp (maxSteps := 1000000) (disch := first | assumption | ((try simp only [push_next, put_next, adv_next, List.length_cons, List.length_nil, List.length_map, List.length_set]); omega) | simp) [encIns, c0]
  by_cases c1 : f = 1
  · simp (maxSteps := 1000000) (disch := first | assumption | ((try simp only [push_next, put_next, adv_next, List.length_cons, List.length_nil, List.length_map, List.length_set]); omega) | simp) [encIns, c0, c1]
  by_cases c2 : f = 2
  · simp (maxSteps := 1000000) (disch := first | assumption | ((try simp only [push_next, put_next, adv_next, List.length_cons, List.length_nil, List.length_map, List.length_set]); omega) | simp) [encIns, c0, c1, c2]
  by_cases c3 : f = 3
  · simp (maxSteps := 1000000) (disch := first | assumption | ((try simp only [push_next, put_next, adv_next, List.length_cons, List.length_nil, List.length_map, List.length_set]); omega) | simp) [encIns, c0, c1, c2, c3]
  by_cases c4 : f = 4
  · simp (maxSteps := 1000000) (disch := first | assumption | ((try simp only [push_next, put_next, adv_next, List.length_cons, List.length_nil, List.length_map, List.length_set]); omega) | simp) [encIns, c0, c1, c2, c3, c4]
  · simp (maxSteps := 1000000) (disch := first | assumption | ((try simp only [push_next, put_next, adv_next, List.length_cons, List.length_nil, List.length_map, List.length_set]); omega) | simp) [encIns, c0, c1, c2, c3, c4]
/-- An instruction as it is drawn. -/
structure In7 where
  k : Int
  s : Int
  t : Int
  d : Int
  sh : Int
  imm : BitVec 32
  raw : BitVec 32
def encI7 : Enc In7 := ⟨7, fun x => [.int .i64 x.k, .int .i64 x.s, .int .i64 x.t, .int .i64 x.d, .int .i64 x.sh, u32 x.imm, u32 x.raw], fun _ => rfl, fun _ => rfl, by decide⟩
@[simp] theorem encI7_sz : encI7.sz = 7 := rfl
theorem k_inst {x : In7} {kind : Int} : WC T n_pianolakeep_Inst [.agg (encI7.enc x).toArray, .int .i64 kind] h fun v h' => isI v ∧ Kp h h' := by
  have hw := fun h q => within_eq (h := h) (q := q) (n := x.sh) (lo := 0) (hi := 31) (by omega) (by omega) (by omega)
  rw [w_pianolakeep_Inst]
  simp (maxSteps := 1000000) (disch := first | assumption | ((try simp only [push_next, put_next, adv_next, List.length_cons, List.length_nil, List.length_map, List.length_set]); omega) | simp) [encI7]
  refine GCI_intro k_near fun v h1 ⟨⟨m1, hv⟩, hh⟩ => ?_
  subst hv hh
  simp (maxSteps := 1000000) (disch := first | assumption | ((try simp only [push_next, put_next, adv_next, List.length_cons, List.length_nil, List.length_map, List.length_set]); omega) | simp) []
  refine GCI_intro k_near fun v h1 ⟨⟨m2, hv⟩, hh⟩ => ?_
  subst hv hh
  simp (maxSteps := 1000000) (disch := first | assumption | ((try simp only [push_next, put_next, adv_next, List.length_cons, List.length_nil, List.length_map, List.length_set]); omega) | simp) []
  refine GCI_intro k_near fun v h1 ⟨⟨m3, hv⟩, hh⟩ => ?_
  subst hv hh
  simp (maxSteps := 1000000) (disch := first | assumption | ((try simp only [push_next, put_next, adv_next, List.length_cons, List.length_nil, List.length_map, List.length_set]); omega) | simp) [GCI_of (hw _)]
  generalize hP : Hp.push (Hp.push (Hp.push h _) _) _ = P
  have KP : Kp h P := by rw [← hP]; exact (((Kp.refl h).push _).push _).push _
  have g4 : P.get (h.next + 1) = some (.cells false [.int .i64 0, .int .i64 0, .int .i64 0, .int .i64 0, .int .i64 0, u32 0#32]) := by rw [← hP, get_push_ne (by simp only [push_next]; omega)]; exact get_push_self
  have g5 : P.get (h.next + 2) = some (.cells false (encIns.enc ⟨kind, m1, m2, m3, wi x.sh 0 31, x.imm &&& 67108863#32⟩)) := by rw [← hP]; exact get_push_self
  clear hP
  refine G_loop (fun j e H => ∃ (k : Nat) (i : Ins), j = 6 - k ∧ k ≤ 6 ∧ Kp h H ∧ H.get (h.next + 1) = some (.cells false [.int .i64 0, .int .i64 0, .int .i64 0, .int .i64 0, .int .i64 0, u32 0#32]) ∧ H.get (h.next + 2) = some (.cells false (encIns.enc i)) ∧ e 4 = ptr (h.next + 1) 0 ∧ e 5 = ptr (h.next + 2) 0 ∧ e 6 = .int .i64 k) ?_ 6 _ _ ⟨0, _, rfl, by omega, KP, g4, g5, by simp, by simp, by simp⟩
  clear KP g4 g5 hw P
  rintro j ih e H ⟨k, i, rfl, hk, K, g4, g5, e4, e5, e6⟩
  have l5 := lt_of_get g5
  have r5 := rdn_all (n := 6) g5 rfl
  by_cases c1 : k < 6
  case neg =>
    obtain rfl : k = 6 := by omega
    simp only [encIns] at r5
    simp (maxSteps := 1000000) (disch := first | assumption | ((try simp only [push_next, put_next, adv_next, List.length_cons, List.length_nil, List.length_map, List.length_set]); omega) | simp) [e6, e5, e4, g4, r5]
  have c1' : (k : Int) < 6 := by omega
  have ho := fun h i f => k_only (h := h) (i := i) (f := f)
  have hrr := fun h i => r_right (h := h) (i := i)
  have rest : ∀ (e' : Env) (y : Ins) (h2 : Hp), Kp h h2 → h2.get (h.next + 1) = some (.cells false [.int .i64 0, .int .i64 0, .int .i64 0, .int .i64 0, .int .i64 0, u32 0#32]) → h2.get (h.next + 2) = some (.cells false (encIns.enc i)) → ∀ b, h2.get b = some (.cells false (encIns.enc y)) → h.next + 2 < b → e' 4 = ptr (h.next + 1) 0 → e' 5 = ptr (h.next + 2) 0 → e' 6 = .int .i64 k → e' 7 = ptr b 0 →
      G T (fin [RV.ldn 6 4] (some []) h.next fun v h' => isI v ∧ Kp h h') c3_pianolakeep_Inst [Fr.block 1, Fr.seq (C.ops [{ d := some 27, g := none, o := Op.mov (X.t 6) }, { d := some 28, g := none, o := Op.bin BinOp.add (X.t 27) (X.c (Value.int IntKind.i64 1)) }, { d := some 6, g := none, o := Op.mov (X.t 28) }]), Fr.loop c5_pianolakeep_Inst, Fr.block 0, Fr.seq ((C.ops [{ d := some 56, g := none, o := Op.ldn 6 (X.t 5) }, { d := none, g := none, o := Op.stn 6 (X.t 4) (X.t 56) }]).seq C.ret)] e' h2 := fun e' y h2 K2 g4 g5 b gb hb e4 e5 e6 e7 => by
    have r5 := rdn_all (n := 6) g5 rfl
    simp only [encIns] at r5
    simp (maxSteps := 1000000) (disch := first | assumption | ((try simp only [push_next, put_next, adv_next, List.length_cons, List.length_nil, List.length_map, List.length_set]); omega) | simp) [e5, e6, r5]
    have ho := fun h => k_only (h := h) (i := i) (f := (k : Int))
    simp only [encIns] at ho
    refine GC_intro (ho _) fun v h3 ⟨⟨z, hv⟩, K3⟩ => ?_
    subst hv
    simp (maxSteps := 1000000) (disch := first | assumption | ((try simp only [push_next, put_next, adv_next, List.length_cons, List.length_nil, List.length_map, List.length_set]); omega) | simp)
    refine GC_intro r_right fun v h4 ⟨⟨t, hv⟩, K4⟩ => ?_
    subst hv
    have K34 := K3.trans K4
    have f4 := (K34.get _ (lt_of_get g4)).trans g4
    have f5 := (K34.get _ (lt_of_get g5)).trans g5
    have fb := (K34.get _ (lt_of_get gb)).trans gb
    have K5 := K2.trans K34
    cases t with
    | true =>
      simp (maxSteps := 1000000) (disch := first | assumption | ((try simp only [push_next, put_next, adv_next, List.length_cons, List.length_nil, List.length_map, List.length_set]); omega) | simp) [e6]
      exact ih (6 - (k + 1)) (by omega) _ _ ⟨k + 1, i, rfl, by omega, K5, f4, f5, by simp [e4], by simp [e5], by simp⟩
    | false =>
      have rb := rdn_all (n := 6) fb rfl
      have l5 := lt_of_get f5
      have w5 := wr_all (vs := encIns.enc y) f5 rfl (encIns.one y)
      simp only [encIns] at rb f5
      simp (maxSteps := 1000000) (disch := first | assumption | ((try simp only [push_next, put_next, adv_next, List.length_cons, List.length_nil, List.length_map, List.length_set]); omega) | simp) [e6, e5, e7, rb, f5]
      refine ih (6 - (k + 1)) (by omega) _ _ ⟨k + 1, y, rfl, by omega, K5.put (by omega) _, (get_put_ne (by omega)).trans f4, get_put_self l5, by simp [e4], by simp [e5], by simp⟩
  have hl : h.next + 2 < H.next := l5
  simp only [encIns] at r5
  have gp : ∀ y : Ins, (H.push (.cells false (encIns.enc y))).get H.next = some (.cells false (encIns.enc y)) := fun y => get_push_self
  have done : ∀ (e' : Env) (y : Ins), e' 4 = ptr (h.next + 1) 0 → e' 5 = ptr (h.next + 2) 0 → e' 6 = .int .i64 k → e' 7 = ptr H.next 0 → _ := fun e' y f4 f5 f6 f7 => rest e' y (H.push (.cells false (encIns.enc y))) (K.push _) ((get_push_ne (by omega)).trans g4) ((get_push_ne (by omega)).trans g5) H.next get_push_self hl f4 f5 f6 f7
  obtain rfl | rfl | rfl | rfl | rfl | rfl : k = 0 ∨ k = 1 ∨ k = 2 ∨ k = 3 ∨ k = 4 ∨ k = 5 := by omega
  · simp (maxSteps := 1000000) (disch := first | assumption | ((try simp only [push_next, put_next, adv_next, List.length_cons, List.length_nil, List.length_map, List.length_set]); omega) | simp) [e4, e5, e6, r5, -g3_pianolakeep_Inst]
    exact done _ ⟨i.k, 0, i.t, i.d, i.sh, i.imm⟩ (by simp [e4]) (by simp [e5]) (by simp [e6]) (by simp)
  · simp (maxSteps := 1000000) (disch := first | assumption | ((try simp only [push_next, put_next, adv_next, List.length_cons, List.length_nil, List.length_map, List.length_set]); omega) | simp) [e4, e5, e6, r5, -g3_pianolakeep_Inst]
    exact done _ ⟨i.k, i.s, 0, i.d, i.sh, i.imm⟩ (by simp [e4]) (by simp [e5]) (by simp [e6]) (by simp)
  · simp (maxSteps := 1000000) (disch := first | assumption | ((try simp only [push_next, put_next, adv_next, List.length_cons, List.length_nil, List.length_map, List.length_set]); omega) | simp) [e4, e5, e6, r5, -g3_pianolakeep_Inst]
    exact done _ ⟨i.k, i.s, i.t, 0, i.sh, i.imm⟩ (by simp [e4]) (by simp [e5]) (by simp [e6]) (by simp)
  · simp (maxSteps := 1000000) (disch := first | assumption | ((try simp only [push_next, put_next, adv_next, List.length_cons, List.length_nil, List.length_map, List.length_set]); omega) | simp) [e4, e5, e6, r5, -g3_pianolakeep_Inst]
    exact done _ ⟨i.k, i.s, i.t, i.d, 0, i.imm⟩ (by simp [e4]) (by simp [e5]) (by simp [e6]) (by simp)
  · simp (maxSteps := 1000000) (disch := first | assumption | ((try simp only [push_next, put_next, adv_next, List.length_cons, List.length_nil, List.length_map, List.length_set]); omega) | simp) [e4, e5, e6, r5, -g3_pianolakeep_Inst]
    exact done _ ⟨i.k, i.s, i.t, i.d, i.sh, i.imm &&& 65535#32⟩ (by simp [e4]) (by simp [e5]) (by simp [e6]) (by simp)
  · simp (maxSteps := 1000000) (disch := first | assumption | ((try simp only [push_next, put_next, adv_next, List.length_cons, List.length_nil, List.length_map, List.length_set]); omega) | simp) [e4, e5, e6, r5, -g3_pianolakeep_Inst]
    exact done _ ⟨i.k, i.s, i.t, i.d, i.sh, 0#32⟩ (by simp [e4]) (by simp [e5]) (by simp [e6]) (by simp)
end
end Go.Proofs.YtmgoleiafiffoaaGreat.Cd

/- The document's words as they are drawn: rows of Kinds. -/
set_option maxRecDepth 1000000
set_option maxHeartbeats 8000000
set_option linter.unusedSimpArgs false
set_option linter.unusedVariables false
namespace Go.Proofs.YtmgoleiafiffoaaGreat.Cd
open Go Go.Dx
/-- A table of numbers. -/
def isZs (V : List Value) (n : Nat) : Prop := V.length = n ∧ ∀ j, j < n → ∃ c : Int, V[j]? = some (.int .i64 c)
theorem isZs_map (l : List Int) : isZs (l.map (Value.int .i64)) l.length := ⟨by simp, fun j hj => ⟨l[j], by simp [hj]⟩⟩
theorem tmod_ix {n : Int} {m : Nat} (h0 : 0 ≤ n) (hm : 0 < m) : ∃ j : Nat, n.tmod m = j ∧ j < m := ⟨(n % m).toNat, by
  rw [Int.tmod_eq_emod_of_nonneg h0, Int.toNat_of_nonneg (Int.emod_nonneg _ (by omega))], by
  have h1 := Int.emod_nonneg n (show (m : Int) ≠ 0 by omega)
  have h2 := Int.emod_lt_of_pos n (show (0 : Int) < m by omega)
  omega⟩
section
variable {h : Hp} {q : Value → Hp → Prop} {i : Ins}
theorem k_any {x : In7} : WC T n_pianolakeep_Any [.agg (encI7.enc x).toArray] h fun v h' => isI v ∧ Kp h h' := by
  have hw := fun h q => within_eq (h := h) (q := q) (n := x.k) (lo := 0) (hi := 1048576) (by omega) (by omega) (by omega)
  obtain ⟨w1, w2⟩ := wi_bound (n := x.k) (lo := 0) (hi := 1048576) (by omega)
  rw [w_pianolakeep_Any]
  have hi := fun h kind => k_inst (h := h) (x := x) (kind := kind)
  simp only [encI7] at hi
  simp (maxSteps := 1000000) (disch := first | assumption | ((try simp only [push_next, put_next, adv_next, List.length_cons, List.length_nil, List.length_map, List.length_set]); omega) | simp) [encI7, GCI_of (hw _)]
  refine GCI_intro (hi _ _) fun v h1 ⟨⟨j, hv⟩, K1⟩ => ?_
  subst hv
  have g1 := (K1.get (h.next + 1) (by simp)).trans get_push_self
  have l1 := lt_of_get g1
  have K0 : Kp h h1 := Kp.trans (((Kp.refl h).push _).push _) K1
  simp (maxSteps := 1000000) (disch := first | assumption | ((try simp only [push_next, put_next, adv_next, List.length_cons, List.length_nil, List.length_map, List.length_set]); omega) | simp) [encIns, g1]
theorem k_plain {x : In7} : WC T n_pianolakeep_Plain [.agg (encI7.enc x).toArray] h fun v h' => isI v ∧ Kp h h' := by
  have hw := fun h q => within_eq (h := h) (q := q) (n := x.k) (lo := 0) (hi := 1048576) (by omega) (by omega) (by omega)
  obtain ⟨w1, w2⟩ := wi_bound (n := x.k) (lo := 0) (hi := 1048576) (by omega)
  rw [w_pianolakeep_Plain]
  have hi := fun h kind => k_inst (h := h) (x := x) (kind := kind)
  simp only [encI7] at hi
  generalize wi x.k 0 1048576 = n at *
  obtain ⟨V, hV, hl, hz⟩ : ∃ V : List Value, V = [.int .i64 1, .int .i64 2, .int .i64 3, .int .i64 4, .int .i64 5, .int .i64 6, .int .i64 9, .int .i64 10, .int .i64 13, .int .i64 14, .int .i64 15, .int .i64 16, .int .i64 17, .int .i64 18, .int .i64 19, .int .i64 20, .int .i64 21, .int .i64 23, .int .i64 25, .int .i64 26, .int .i64 27, .int .i64 28, .int .i64 29, .int .i64 30, .int .i64 31, .int .i64 47, .int .i64 48, .int .i64 49, .int .i64 50, .int .i64 51, .int .i64 52, .int .i64 53, .int .i64 63, .int .i64 64, .int .i64 65, .int .i64 76, .int .i64 77] ∧ isZs V 37 := ⟨_, rfl, isZs_map [1, 2, 3, 4, 5, 6, 9, 10, 13, 14, 15, 16, 17, 18, 19, 20, 21, 23, 25, 26, 27, 28, 29, 30, 31, 47, 48, 49, 50, 51, 52, 53, 63, 64, 65, 76, 77]⟩
  obtain ⟨j, hj, hj2⟩ := tmod_ix (n := n) (m := 37) w1 (by omega)
  have hj : n.tmod 37 = (j : Int) := hj
  obtain ⟨c, hc⟩ := hz j hj2
  have hc2 : ∀ hh : j < V.length, V[j]'hh = .int .i64 c := fun hh => by rw [List.getElem?_eq_getElem hh] at hc; exact Option.some.inj hc
  simp (maxSteps := 1000000) (disch := first | assumption | ((try simp only [push_next, put_next, adv_next, List.length_cons, List.length_nil, List.length_map, List.length_set]); omega) | simp) [encI7, -g0_pianolakeep_Plain]
  rw [← hV]
  clear hV hz
  simp (maxSteps := 1000000) (disch := first | assumption | ((try simp only [push_next, put_next, adv_next, List.length_cons, List.length_nil, List.length_map, List.length_set]); omega) | simp) [GCI_of (hw _), hj, hj2, hc, hc2, hl]
  refine GCI_intro (hi _ _) fun v h1 ⟨⟨i, hv⟩, K1⟩ => ?_
  subst hv
  have g1 := (K1.get (h.next + 1) (by simp)).trans ((get_push_ne (by rw [push_next, push_next]; omega)).trans get_push_self)
  have l1 := lt_of_get g1
  have K0 : Kp h h1 := Kp.trans ((((Kp.refl h).push _).push _).push _) K1
  simp (maxSteps := 1000000) (disch := first | assumption | ((try simp only [push_next, put_next, adv_next, List.length_cons, List.length_nil, List.length_map, List.length_set]); omega) | simp) [encIns, g1]
theorem and_k {n : Int} {m : Nat} (hm : m < 64) : ∃ j : Nat, j ≤ m ∧ binV .and (.int .i64 n) (.int .i64 (m : Int)) = some (.int .i64 j) := by
  have h : (BitVec.ofInt 64 n &&& BitVec.ofInt 64 m).toNat ≤ m := by
    rw [BitVec.toNat_and, BitVec.ofInt_natCast, BitVec.toNat_ofNat]
    refine Nat.le_trans Nat.and_le_right ?_
    exact Nat.mod_le _ _
  refine ⟨_, h, ?_⟩
  rw [and_i64, wrap_i64 (by omega) (by omega)]
theorem k_code {x : In7} : WC T n_pianolakeep_Code [.agg (encI7.enc x).toArray] h fun v h' => isW v ∧ Kp h h' := by
  have hw := fun h q => within_eq (h := h) (q := q) (n := x.k) (lo := 0) (hi := 1048576) (by omega) (by omega) (by omega)
  obtain ⟨w1, w2⟩ := wi_bound (n := x.k) (lo := 0) (hi := 1048576) (by omega)
  have hi := fun h kind => k_inst (h := h) (x := x) (kind := kind)
  have ha := fun h => k_any (h := h) (x := x)
  have hp := fun h => k_plain (h := h) (x := x)
  simp only [encI7] at hi ha hp
  generalize wi x.k 0 1048576 = n at *
  rw [w_pianolakeep_Code]
  simp (maxSteps := 1000000) (disch := first | assumption | ((try simp only [push_next, put_next, adv_next, List.length_cons, List.length_nil, List.length_map, List.length_set]); omega) | simp) [encI7, GC_of (hw _)]
  generalize hP : Hp.push h _ = P
  have gP : P.get h.next = some (.cells false (encI7.enc x)) := by rw [← hP]; exact get_push_self
  have KP : Kp h P := by rw [← hP]; exact (Kp.refl h).push _
  clear hP
  refine GC_intro (hp _) fun v h1 ⟨⟨i, hv⟩, K1⟩ => ?_
  subst hv
  have g1 := (K1.get _ (lt_of_get gP)).trans gP
  have K0 := KP.trans K1
  have l1 := lt_of_get g1
  clear K1 KP gP
  have fini : ∀ (e : Env) (h2 : Hp) (i : Ins) (p : Nat), h2.get p = some (.cells false (encIns.enc i)) → Kp h h2 → e 4 = ptr p 0 → G T (fin [RV.t 2] (some []) h.next fun v h' => isW v ∧ Kp h h') c14_pianolakeep_Code [] e h2 := fun e h2 i p g K e4 => by
    have r := rdn_all (n := 6) g rfl
    have hr := fun h => r_word (h := h) (i := i)
    simp only [encIns] at r hr
    simp (maxSteps := 1000000) (disch := first | assumption | ((try simp only [push_next, put_next, adv_next, List.length_cons, List.length_nil, List.length_map, List.length_set]); omega) | simp) [e4, r]
    refine GC_intro (hr _) fun v h3 ⟨⟨w, t, hv⟩, K3⟩ => ?_
    subst hv
    simp (maxSteps := 1000000) (disch := first | assumption | ((try simp only [push_next, put_next, adv_next, List.length_cons, List.length_nil, List.length_map, List.length_set]); omega) | simp)
    exact K.trans K3
  simp (maxSteps := 1000000) (disch := first | assumption | ((try simp only [push_next, put_next, adv_next, List.length_cons, List.length_nil, List.length_map, List.length_set]); omega) | simp) [encIns, -g13_pianolakeep_Code]
  have r1 := rdn_all (n := 7) g1 rfl
  have wq : IntKind.i64.wrap (n.tdiv 16) = n.tdiv 16 := by
    rw [Int.tdiv_eq_ediv_of_nonneg (by omega)]
    exact wrap_i64 (by omega) (by omega)
  have q0 : 0 ≤ n.tdiv 16 := by rw [Int.tdiv_eq_ediv_of_nonneg (by omega)]; omega
  obtain ⟨p, hp0'⟩ : ∃ p, p = h1.next := ⟨_, rfl⟩
  generalize hH : Hp.push h1 _ = H
  have gp : H.get p = some (.cells false (encIns.enc i)) := by rw [← hH, hp0']; exact get_push_self
  have gB : H.get h.next = some (.cells false [.int .i64 x.k, .int .i64 x.s, .int .i64 x.t, .int .i64 x.d, .int .i64 x.sh, u32 x.imm, u32 x.raw]) := by rw [← hH]; exact (get_push_ne (by omega)).trans g1
  have K : Kp h H := by rw [← hH]; exact K0.push _
  have hp0 : h.next ≤ p := by omega
  rw [← hp0']
  have hpB : p ≠ h.next := by omega
  clear hH r1 g1 l1
  obtain ⟨a, _, ax⟩ := and_k (n := x.s) (m := 3) (by omega)
  have ax : binV .and (.int .i64 x.s) (.int .i64 3) = some (.int .i64 (a : Int)) := ax
  obtain ⟨b, hb7, bx⟩ := and_k (n := x.d) (m := 7) (by omega)
  have bx : binV .and (.int .i64 x.d) (.int .i64 7) = some (.int .i64 (b : Int)) := bx
  have t2 : ∀ (e : Env), e 1 = ptr h.next 0 → e 3 = .int .i64 n → e 4 = ptr p 0 → G T (fin [RV.t 2] (some []) h.next fun v h' => isW v ∧ Kp h h') c2_pianolakeep_Code [Fr.block 0, Fr.seq c14_pianolakeep_Code] e H := fun e e1 e3 e4 => by
    obtain ⟨V, hV, hl, hz⟩ : ∃ V : List Value, V = [.int .i64 66, .int .i64 67, .int .i64 68, .int .i64 69, .int .i64 70, .int .i64 71, .int .i64 72, .int .i64 73, .int .i64 74, .int .i64 75, .int .i64 73, .int .i64 68] ∧ isZs V 12 := ⟨_, rfl, isZs_map [66, 67, 68, 69, 70, 71, 72, 73, 74, 75, 73, 68]⟩
    obtain ⟨j, hj, hj2⟩ := tmod_ix (n := n.tdiv 16) (m := 12) q0 (by omega)
    have hj : (n.tdiv 16).tmod 12 = (j : Int) := hj
    obtain ⟨c, hc⟩ := hz j hj2
    have hc2 : ∀ hh : j < V.length, V[j]'hh = .int .i64 c := fun hh => by rw [List.getElem?_eq_getElem hh] at hc; exact Option.some.inj hc
    simp (maxSteps := 1000000) (disch := first | assumption | ((try simp only [push_next, put_next, adv_next, List.length_cons, List.length_nil, List.length_map, List.length_set]); omega) | simp) [e1, e3, e4, -g1_pianolakeep_Code]
    rw [← hV]
    clear hV hz
    generalize hP : Hp.push H _ = P
    have gP : P.get H.next = some (.cells false V) := by rw [← hP]; exact get_push_self
    have KP : Kp H P := by rw [← hP]; exact (Kp.refl H).push _
    clear hP
    have rB' := rdn_all (n := 7) ((KP.get _ (lt_of_get gB)).trans gB) rfl
    simp (maxSteps := 1000000) (disch := first | assumption | ((try simp only [push_next, put_next, adv_next, List.length_cons, List.length_nil, List.length_map, List.length_set]); omega) | simp) [e1, e3, e4, wq, hj, hj2, hc, hc2, hl, gP, rB']
    refine GC_intro (hi _ _) fun v h2 ⟨⟨i2, hv⟩, K2⟩ => ?_
    subst hv
    have K3 := KP.trans K2
    have gB2 := (K3.get _ (lt_of_get gB)).trans gB
    have gp2 := (K3.get _ (lt_of_get gp)).trans gp
    have lp2 := lt_of_get gp2
    have K4 := K.trans K3
    simp (maxSteps := 1000000) (disch := first | assumption | ((try simp only [push_next, put_next, adv_next, List.length_cons, List.length_nil, List.length_map, List.length_set]); omega) | simp) [encIns, e1, e4, gp2, lp2, gB2, ax, -g14_pianolakeep_Code]
    exact fini _ _ ⟨i2.k, 28 + (a : Int), i2.t, i2.d, i2.sh, i2.imm &&& 2044#32⟩ p (by rw [get_put_self lp2]; rfl) (K4.put hp0 _) (by simp [e4])
  have t5 : ∀ (e : Env), e 1 = ptr h.next 0 → e 3 = .int .i64 n → e 4 = ptr p 0 → G T (fin [RV.t 2] (some []) h.next fun v h' => isW v ∧ Kp h h') c5_pianolakeep_Code [Fr.block 0, Fr.seq c14_pianolakeep_Code] e H := fun e e1 e3 e4 => by
    obtain ⟨V, hV, hl, hz⟩ : ∃ V : List Value, V = [.int .i64 42, .int .i64 43, .int .i64 44, .int .i64 45, .int .i64 36, .int .i64 37, .int .i64 39, .int .i64 42] ∧ isZs V 8 := ⟨_, rfl, isZs_map [42, 43, 44, 45, 36, 37, 39, 42]⟩
    obtain ⟨j, hj, hj2⟩ := tmod_ix (n := n.tdiv 16) (m := 8) q0 (by omega)
    have hj : (n.tdiv 16).tmod 8 = (j : Int) := hj
    obtain ⟨c, hc⟩ := hz j hj2
    have hc2 : ∀ hh : j < V.length, V[j]'hh = .int .i64 c := fun hh => by rw [List.getElem?_eq_getElem hh] at hc; exact Option.some.inj hc
    simp (maxSteps := 1000000) (disch := first | assumption | ((try simp only [push_next, put_next, adv_next, List.length_cons, List.length_nil, List.length_map, List.length_set]); omega) | simp) [e1, e3, e4, -g4_pianolakeep_Code]
    rw [← hV]
    clear hV hz
    generalize hP : Hp.push H _ = P
    have gP : P.get H.next = some (.cells false V) := by rw [← hP]; exact get_push_self
    have KP : Kp H P := by rw [← hP]; exact (Kp.refl H).push _
    clear hP
    have rB' := rdn_all (n := 7) ((KP.get _ (lt_of_get gB)).trans gB) rfl
    simp (maxSteps := 1000000) (disch := first | assumption | ((try simp only [push_next, put_next, adv_next, List.length_cons, List.length_nil, List.length_map, List.length_set]); omega) | simp) [e1, e3, e4, wq, hj, hj2, hc, hc2, hl, gP, rB']
    refine GC_intro (hi _ _) fun v h2 ⟨⟨i2, hv⟩, K2⟩ => ?_
    subst hv
    have K3 := KP.trans K2
    have gB2 := (K3.get _ (lt_of_get gB)).trans gB
    have gp2 := (K3.get _ (lt_of_get gp)).trans gp
    have lp2 := lt_of_get gp2
    have K4 := K.trans K3
    have sx : ∀ y : Int, binV .sub (.int .i32 y) (.int .i32 6) = some (.int .i32 (IntKind.i32.wrap (y - 6))) := fun y => rfl
    simp (maxSteps := 1000000) (disch := first | assumption | ((try simp only [push_next, put_next, adv_next, List.length_cons, List.length_nil, List.length_map, List.length_set]); omega) | simp) [encIns, e1, e4, gp2, lp2, gB2, sx, -g14_pianolakeep_Code]
    exact fini _ _ ⟨i2.k, i2.s, i2.t, i2.d, i2.sh, BitVec.ofInt 32 (IntKind.i32.wrap ((x.imm % 16#32).toInt - 6)) &&& 65535#32⟩ p (get_put_self lp2) (K4.put hp0 _) (by simp [e4])
  have t9 : ∀ (e : Env), e 1 = ptr h.next 0 → e 3 = .int .i64 n → e 4 = ptr p 0 → G T (fin [RV.t 2] (some []) h.next fun v h' => isW v ∧ Kp h h') c9_pianolakeep_Code [Fr.block 0, Fr.seq c14_pianolakeep_Code] e H := fun e e1 e3 e4 => by
    obtain ⟨V, hV, hl, hz⟩ : ∃ V : List Value, V = [.int .i64 55, .int .i64 54, .int .i64 55, .int .i64 57, .int .i64 59, .int .i64 56, .int .i64 58, .int .i64 60, .int .i64 11, .int .i64 61] ∧ isZs V 10 := ⟨_, rfl, isZs_map [55, 54, 55, 57, 59, 56, 58, 60, 11, 61]⟩
    obtain ⟨j, hj, hj2⟩ := tmod_ix (n := n.tdiv 16) (m := 10) q0 (by omega)
    have hj : (n.tdiv 16).tmod 10 = (j : Int) := hj
    obtain ⟨c, hc⟩ := hz j hj2
    have hc2 : ∀ hh : j < V.length, V[j]'hh = .int .i64 c := fun hh => by rw [List.getElem?_eq_getElem hh] at hc; exact Option.some.inj hc
    simp (maxSteps := 1000000) (disch := first | assumption | ((try simp only [push_next, put_next, adv_next, List.length_cons, List.length_nil, List.length_map, List.length_set]); omega) | simp) [e1, e3, e4, -g8_pianolakeep_Code]
    rw [← hV]
    clear hV hz
    generalize hP : Hp.push H _ = P
    have gP : P.get H.next = some (.cells false V) := by rw [← hP]; exact get_push_self
    have KP : Kp H P := by rw [← hP]; exact (Kp.refl H).push _
    clear hP
    have rB' := rdn_all (n := 7) ((KP.get _ (lt_of_get gB)).trans gB) rfl
    simp (maxSteps := 1000000) (disch := first | assumption | ((try simp only [push_next, put_next, adv_next, List.length_cons, List.length_nil, List.length_map, List.length_set]); omega) | simp) [e1, e3, e4, wq, hj, hj2, hc, hc2, hl, gP, rB']
    refine GC_intro (hi _ _) fun v h2 ⟨⟨i2, hv⟩, K2⟩ => ?_
    subst hv
    have K3 := KP.trans K2
    have gB2 := (K3.get _ (lt_of_get gB)).trans gB
    have gp2 := (K3.get _ (lt_of_get gp)).trans gp
    have lp2 := lt_of_get gp2
    have K4 := K.trans K3
    by_cases k5 : i2.k = 55
    · have bx := bx
      obtain rfl | rfl | rfl | rfl | rfl | rfl | rfl | rfl : b = 0 ∨ b = 1 ∨ b = 2 ∨ b = 3 ∨ b = 4 ∨ b = 5 ∨ b = 6 ∨ b = 7 := by omega
      · simp (maxSteps := 1000000) (disch := first | assumption | ((try simp only [push_next, put_next, adv_next, List.length_cons, List.length_nil, List.length_map, List.length_set]); omega) | simp) [encIns, e1, e4, gp2, lp2, gB2, k5, bx, -g14_pianolakeep_Code]
        exact fini _ _ ⟨55, i2.s, i2.t, 12, i2.sh, i2.imm⟩ p ((get_push_ne (by rw [put_next]; omega)).trans (get_put_self lp2)) ((K4.put hp0 _).push _) (by simp [e4])
      · simp (maxSteps := 1000000) (disch := first | assumption | ((try simp only [push_next, put_next, adv_next, List.length_cons, List.length_nil, List.length_map, List.length_set]); omega) | simp) [encIns, e1, e4, gp2, lp2, gB2, k5, bx, -g14_pianolakeep_Code]
        exact fini _ _ ⟨55, i2.s, i2.t, 13, i2.sh, i2.imm⟩ p ((get_push_ne (by rw [put_next]; omega)).trans (get_put_self lp2)) ((K4.put hp0 _).push _) (by simp [e4])
      · simp (maxSteps := 1000000) (disch := first | assumption | ((try simp only [push_next, put_next, adv_next, List.length_cons, List.length_nil, List.length_map, List.length_set]); omega) | simp) [encIns, e1, e4, gp2, lp2, gB2, k5, bx, -g14_pianolakeep_Code]
        exact fini _ _ ⟨55, i2.s, i2.t, 11, i2.sh, i2.imm⟩ p ((get_push_ne (by rw [put_next]; omega)).trans (get_put_self lp2)) ((K4.put hp0 _).push _) (by simp [e4])
      · simp (maxSteps := 1000000) (disch := first | assumption | ((try simp only [push_next, put_next, adv_next, List.length_cons, List.length_nil, List.length_map, List.length_set]); omega) | simp) [encIns, e1, e4, gp2, lp2, gB2, k5, bx, -g14_pianolakeep_Code]
        exact fini _ _ ⟨55, i2.s, i2.t, 9, i2.sh, i2.imm⟩ p ((get_push_ne (by rw [put_next]; omega)).trans (get_put_self lp2)) ((K4.put hp0 _).push _) (by simp [e4])
      · simp (maxSteps := 1000000) (disch := first | assumption | ((try simp only [push_next, put_next, adv_next, List.length_cons, List.length_nil, List.length_map, List.length_set]); omega) | simp) [encIns, e1, e4, gp2, lp2, gB2, k5, bx, -g14_pianolakeep_Code]
        exact fini _ _ ⟨55, i2.s, i2.t, 10, i2.sh, i2.imm⟩ p ((get_push_ne (by rw [put_next]; omega)).trans (get_put_self lp2)) ((K4.put hp0 _).push _) (by simp [e4])
      · simp (maxSteps := 1000000) (disch := first | assumption | ((try simp only [push_next, put_next, adv_next, List.length_cons, List.length_nil, List.length_map, List.length_set]); omega) | simp) [encIns, e1, e4, gp2, lp2, gB2, k5, bx, -g14_pianolakeep_Code]
        exact fini _ _ ⟨55, i2.s, i2.t, 2, i2.sh, i2.imm⟩ p ((get_push_ne (by rw [put_next]; omega)).trans (get_put_self lp2)) ((K4.put hp0 _).push _) (by simp [e4])
      · simp (maxSteps := 1000000) (disch := first | assumption | ((try simp only [push_next, put_next, adv_next, List.length_cons, List.length_nil, List.length_map, List.length_set]); omega) | simp) [encIns, e1, e4, gp2, lp2, gB2, k5, bx, -g14_pianolakeep_Code]
        exact fini _ _ ⟨55, i2.s, i2.t, 0, i2.sh, i2.imm⟩ p ((get_push_ne (by rw [put_next]; omega)).trans (get_put_self lp2)) ((K4.put hp0 _).push _) (by simp [e4])
      · simp (maxSteps := 1000000) (disch := first | assumption | ((try simp only [push_next, put_next, adv_next, List.length_cons, List.length_nil, List.length_map, List.length_set]); omega) | simp) [encIns, e1, e4, gp2, lp2, gB2, k5, bx, -g14_pianolakeep_Code]
        exact fini _ _ ⟨55, i2.s, i2.t, 14, i2.sh, i2.imm⟩ p ((get_push_ne (by rw [put_next]; omega)).trans (get_put_self lp2)) ((K4.put hp0 _).push _) (by simp [e4])
    · by_cases k4 : i2.k = 54
      · have bx := bx
        obtain rfl | rfl | rfl | rfl | rfl | rfl | rfl | rfl : b = 0 ∨ b = 1 ∨ b = 2 ∨ b = 3 ∨ b = 4 ∨ b = 5 ∨ b = 6 ∨ b = 7 := by omega
        · simp (maxSteps := 1000000) (disch := first | assumption | ((try simp only [push_next, put_next, adv_next, List.length_cons, List.length_nil, List.length_map, List.length_set]); omega) | simp) [encIns, e1, e4, gp2, lp2, gB2, k4, k5, bx, -g14_pianolakeep_Code]
          exact fini _ _ ⟨54, i2.s, i2.t, 12, i2.sh, i2.imm⟩ p ((get_push_ne (by rw [put_next]; omega)).trans (get_put_self lp2)) ((K4.put hp0 _).push _) (by simp [e4])
        · simp (maxSteps := 1000000) (disch := first | assumption | ((try simp only [push_next, put_next, adv_next, List.length_cons, List.length_nil, List.length_map, List.length_set]); omega) | simp) [encIns, e1, e4, gp2, lp2, gB2, k4, k5, bx, -g14_pianolakeep_Code]
          exact fini _ _ ⟨54, i2.s, i2.t, 13, i2.sh, i2.imm⟩ p ((get_push_ne (by rw [put_next]; omega)).trans (get_put_self lp2)) ((K4.put hp0 _).push _) (by simp [e4])
        · simp (maxSteps := 1000000) (disch := first | assumption | ((try simp only [push_next, put_next, adv_next, List.length_cons, List.length_nil, List.length_map, List.length_set]); omega) | simp) [encIns, e1, e4, gp2, lp2, gB2, k4, k5, bx, -g14_pianolakeep_Code]
          exact fini _ _ ⟨54, i2.s, i2.t, 11, i2.sh, i2.imm⟩ p ((get_push_ne (by rw [put_next]; omega)).trans (get_put_self lp2)) ((K4.put hp0 _).push _) (by simp [e4])
        · simp (maxSteps := 1000000) (disch := first | assumption | ((try simp only [push_next, put_next, adv_next, List.length_cons, List.length_nil, List.length_map, List.length_set]); omega) | simp) [encIns, e1, e4, gp2, lp2, gB2, k4, k5, bx, -g14_pianolakeep_Code]
          exact fini _ _ ⟨54, i2.s, i2.t, 9, i2.sh, i2.imm⟩ p ((get_push_ne (by rw [put_next]; omega)).trans (get_put_self lp2)) ((K4.put hp0 _).push _) (by simp [e4])
        · simp (maxSteps := 1000000) (disch := first | assumption | ((try simp only [push_next, put_next, adv_next, List.length_cons, List.length_nil, List.length_map, List.length_set]); omega) | simp) [encIns, e1, e4, gp2, lp2, gB2, k4, k5, bx, -g14_pianolakeep_Code]
          exact fini _ _ ⟨54, i2.s, i2.t, 10, i2.sh, i2.imm⟩ p ((get_push_ne (by rw [put_next]; omega)).trans (get_put_self lp2)) ((K4.put hp0 _).push _) (by simp [e4])
        · simp (maxSteps := 1000000) (disch := first | assumption | ((try simp only [push_next, put_next, adv_next, List.length_cons, List.length_nil, List.length_map, List.length_set]); omega) | simp) [encIns, e1, e4, gp2, lp2, gB2, k4, k5, bx, -g14_pianolakeep_Code]
          exact fini _ _ ⟨54, i2.s, i2.t, 2, i2.sh, i2.imm⟩ p ((get_push_ne (by rw [put_next]; omega)).trans (get_put_self lp2)) ((K4.put hp0 _).push _) (by simp [e4])
        · simp (maxSteps := 1000000) (disch := first | assumption | ((try simp only [push_next, put_next, adv_next, List.length_cons, List.length_nil, List.length_map, List.length_set]); omega) | simp) [encIns, e1, e4, gp2, lp2, gB2, k4, k5, bx, -g14_pianolakeep_Code]
          exact fini _ _ ⟨54, i2.s, i2.t, 0, i2.sh, i2.imm⟩ p ((get_push_ne (by rw [put_next]; omega)).trans (get_put_self lp2)) ((K4.put hp0 _).push _) (by simp [e4])
        · simp (maxSteps := 1000000) (disch := first | assumption | ((try simp only [push_next, put_next, adv_next, List.length_cons, List.length_nil, List.length_map, List.length_set]); omega) | simp) [encIns, e1, e4, gp2, lp2, gB2, k4, k5, bx, -g14_pianolakeep_Code]
          exact fini _ _ ⟨54, i2.s, i2.t, 14, i2.sh, i2.imm⟩ p ((get_push_ne (by rw [put_next]; omega)).trans (get_put_self lp2)) ((K4.put hp0 _).push _) (by simp [e4])
      · simp (maxSteps := 1000000) (disch := first | assumption | ((try simp only [push_next, put_next, adv_next, List.length_cons, List.length_nil, List.length_map, List.length_set]); omega) | simp) [encIns, e1, e4, gp2, lp2, gB2, k4, k5, -g14_pianolakeep_Code]
        exact fini _ _ ⟨i2.k, i2.s, i2.t, i2.d, i2.sh, i2.imm⟩ p (get_put_self lp2) (K4.put hp0 _) (by simp [e4])
  obtain ⟨j, hj, hj2⟩ := tmod_ix (n := n) (m := 16) w1 (by omega)
  have hj : n.tmod 16 = (j : Int) := hj
  rw [hj]
  by_cases j1 : j = 0 ∨ j = 1
  · rcases j1 with rfl | rfl <;> simp (maxSteps := 1000000) (disch := first | assumption | ((try simp only [push_next, put_next, adv_next, List.length_cons, List.length_nil, List.length_map, List.length_set]); omega) | simp) [gB, K]
  by_cases j2 : j = 2 ∨ j = 3
  · have rB' := rdn_all (n := 7) gB rfl
    rcases j2 with rfl | rfl
    all_goals
      simp (maxSteps := 1000000) (disch := first | assumption | ((try simp only [push_next, put_next, adv_next, List.length_cons, List.length_nil, List.length_map, List.length_set]); omega) | simp) [rB', -g14_pianolakeep_Code]
      refine GC_intro (ha _) fun v h2 ⟨⟨i2, hv⟩, K2⟩ => ?_
      subst hv
      have gp2 := (K2.get _ (lt_of_get gp)).trans gp
      have lp2 := lt_of_get gp2
      simp (maxSteps := 1000000) (disch := first | assumption | ((try simp only [push_next, put_next, adv_next, List.length_cons, List.length_nil, List.length_map, List.length_set]); omega) | simp) [encIns, gp2, lp2, -g14_pianolakeep_Code]
      exact fini _ _ i2 p (get_put_self lp2) ((K.trans K2).put hp0 _) (by simp)
  by_cases j4 : j = 4 ∨ j = 5 ∨ j = 6
  · rcases j4 with rfl | rfl | rfl
    all_goals
      simp (maxSteps := 1000000) (disch := first | assumption | ((try simp only [push_next, put_next, adv_next, List.length_cons, List.length_nil, List.length_map, List.length_set]); omega) | simp) [-g14_pianolakeep_Code, -g2_pianolakeep_Code]
      exact t2 _ (by simp) (by simp) (by simp)
  by_cases j7 : j = 7 ∨ j = 8
  · rcases j7 with rfl | rfl
    all_goals
      simp (maxSteps := 1000000) (disch := first | assumption | ((try simp only [push_next, put_next, adv_next, List.length_cons, List.length_nil, List.length_map, List.length_set]); omega) | simp) [-g14_pianolakeep_Code, -g5_pianolakeep_Code]
      exact t5 _ (by simp) (by simp) (by simp)
  by_cases j9 : j = 9
  · subst j9
    simp (maxSteps := 1000000) (disch := first | assumption | ((try simp only [push_next, put_next, adv_next, List.length_cons, List.length_nil, List.length_map, List.length_set]); omega) | simp) [-g14_pianolakeep_Code, -g9_pianolakeep_Code]
    exact t9 _ (by simp) (by simp) (by simp)
  have n0 : ¬ (j : Int) = 0 := by omega
  have n1 : ¬ (j : Int) = 1 := by omega
  have n2 : ¬ (j : Int) = 2 := by omega
  have n3 : ¬ (j : Int) = 3 := by omega
  have n4 : ¬ (j : Int) = 4 := by omega
  have n5 : ¬ (j : Int) = 5 := by omega
  have n6 : ¬ (j : Int) = 6 := by omega
  have n7 : ¬ (j : Int) = 7 := by omega
  have n8 : ¬ (j : Int) = 8 := by omega
  have n9 : ¬ (j : Int) = 9 := by omega
  have z0 : ¬ j = 0 := by omega
  have z1 : ¬ j = 1 := by omega
  simp (maxSteps := 1000000) (disch := first | assumption | ((try simp only [push_next, put_next, adv_next, List.length_cons, List.length_nil, List.length_map, List.length_set]); omega) | simp) [z0, z1, n0, n1, n2, n3, n4, n5, n6, n7, n8, n9, -g14_pianolakeep_Code]
  exact fini _ _ i p gp K (by simp)
end
end Go.Proofs.YtmgoleiafiffoaaGreat.Cd

/- lift: the operations of an instruction. -/
set_option maxRecDepth 1000000
set_option maxHeartbeats 8000000
set_option linter.unusedSimpArgs false
set_option linter.unusedVariables false
namespace Go.Proofs.YtmgoleiafiffoaaGreat.Cd
open Go Go.Dx
theorem sees_new {α : Type} {E : Enc α} {h : Hp} {b : Nat} {ro : Bool} {xs : List α} {C : List Value} (hg : h.get b = some (.cells ro C)) (hC : C = E.all xs) : Sees E h (some ⟨b, 0, none⟩) xs := by
  subst hC
  exact ⟨fun hA => (by cases hA), fun A hA => by cases hA; exact rdn_all hg (by simp), fun A hA => by cases hA; exact .inl rfl⟩
section
variable {h h' : Hp} {q : Value → Hp → Prop} {w : BitVec 32} {i : Ins}
theorem lift_of : WC T n_lift_Of [.agg (encIns.enc (dOf w)).toArray] h fun v h' => (∃ a c, v = .slice a (lops (dOf w)).length c ∧ Sees encOp h' a (lops (dOf w))) ∧ Kp h h' := by
  obtain ⟨hk, hs, ht, hd, hh, hm⟩ := dOf_bd w
  have hI := fun h => lift_is (h := h) (w := w)
  generalize dOf w = i at *
  have hki := fun h q => lift_kind (h := h) (q := q) hk
  have hin := fun h q => alu_into (h := h) (q := q) hk
  have him := fun h q => lift_imm (h := h) (q := q) (i := i)
  obtain ⟨k, s, t, d, sh, m⟩ := i
  simp only at hk hs ht hd hh hm hI hki hin
  simp only [encIns] at hI hin him
  rw [w_lift_Of]
  simp (maxSteps := 1000000) (disch := first | assumption | ((try simp only [push_next, put_next, adv_next, List.length_cons, List.length_nil, List.length_map, List.length_set]); omega) | simp) [encIns]
  refine GC_intro (hI _) fun v h1 ⟨hv, K1⟩ => ?_
  subst hv
  have g1 : h1.get h.next = some (.cells false [.int .i64 k, .int .i64 s, .int .i64 t, .int .i64 d, .int .i64 sh, u32 m]) := by
    rw [K1.get h.next (by simp)]
    simp (maxSteps := 1000000) (disch := first | assumption | ((try simp only [push_next, put_next, adv_next, List.length_cons, List.length_nil, List.length_map, List.length_set]); omega) | simp) []
  have r1 := rdn_all (n := 6) g1 rfl
  have K0 : Kp h h1 := Kp.trans (by simp (maxSteps := 1000000) (disch := first | assumption | ((try simp only [push_next, put_next, adv_next, List.length_cons, List.length_nil, List.length_map, List.length_set]); omega) | simp) []) K1
  have lt1 := lt_of_get g1
  clear K1 hI
  have none : ∀ k' : Int, k' = k → (k = 0 ∨ dcls k ≠ 1 ∨ k = 13 ∨ k = 76 ∨ k = 77) → (∃ a c, (Value.slice none 0 0) = .slice a (lops ⟨k, s, t, d, sh, m⟩).length c ∧ Sees encOp h1 a (lops ⟨k, s, t, d, sh, m⟩)) ∧ Kp h h1 := fun k' _ hc => by
    have : lops ⟨k, s, t, d, sh, m⟩ = [] := by unfold lops; rw [if_pos hc]
    rw [this]
    exact ⟨⟨_, _, rfl, .nul⟩, K0⟩
  by_cases k0 : k = 0
  · have := none k rfl (.inl k0)
    simp (maxSteps := 1000000) (disch := first | assumption | ((try simp only [push_next, put_next, adv_next, List.length_cons, List.length_nil, List.length_map, List.length_set]); omega) | simp) [k0]
    simpa [k0] using this
  by_cases k1 : dcls k = 1
  case neg =>
    have := none k rfl (.inr (.inl k1))
    simp (maxSteps := 1000000) (disch := first | assumption | ((try simp only [push_next, put_next, adv_next, List.length_cons, List.length_nil, List.length_map, List.length_set]); omega) | simp) [k0, k1]
    simpa using this
  by_cases k13 : k = 13
  · have := none k rfl (by simp [k13])
    subst k13
    simp (maxSteps := 1000000) (disch := first | assumption | ((try simp only [push_next, put_next, adv_next, List.length_cons, List.length_nil, List.length_map, List.length_set]); omega) | simp) [k1]
    simpa using this
  by_cases k76 : k = 76
  · have := none k rfl (by simp [k76])
    subst k76
    simp (maxSteps := 1000000) (disch := first | assumption | ((try simp only [push_next, put_next, adv_next, List.length_cons, List.length_nil, List.length_map, List.length_set]); omega) | simp) [k1]
    simpa using this
  by_cases k77 : k = 77
  · have := none k rfl (by simp [k77])
    subst k77
    simp (maxSteps := 1000000) (disch := first | assumption | ((try simp only [push_next, put_next, adv_next, List.length_cons, List.length_nil, List.length_map, List.length_set]); omega) | simp) [k1]
    simpa using this
  have hN : ¬ (k = 0 ∨ dcls k ≠ 1 ∨ k = 13 ∨ k = 76 ∨ k = 77) := by omega
  clear none
  by_cases k53 : k = 53
  · subst k53
    have hL : lops ⟨53, s, t, d, sh, m⟩ = [⟨1, t, 0, 0, m <<< 16⟩] := by simp [lops, k1]
    rw [hL]
    simp (maxSteps := 1000000) (disch := first | assumption | ((try simp only [push_next, put_next, adv_next, List.length_cons, List.length_nil, List.length_map, List.length_set]); omega) | simp) [k1, g1]
    first | exact sees_new get_push_self rfl | exact ⟨sees_new get_push_self rfl, K0⟩ | exact ⟨sees_new get_push_self rfl, (K0.push _).push _⟩ | (refine ⟨?_, ((K0.push _).push _).push _⟩; refine sees_new (ro := false) ((get_push_ne ?_).trans ?_) rfl; (rw [push_next, push_next]; omega); exact get_push_self)
  by_cases k14 : k = 14
  · subst k14
    have hL : lops ⟨14, s, t, d, sh, m⟩ = [⟨2, d, 32, 0, 0#32⟩] := by simp [lops, k1]
    rw [hL]
    simp (maxSteps := 1000000) (disch := first | assumption | ((try simp only [push_next, put_next, adv_next, List.length_cons, List.length_nil, List.length_map, List.length_set]); omega) | simp) [k1, g1]
    first | exact sees_new get_push_self rfl | exact ⟨sees_new get_push_self rfl, K0⟩ | exact ⟨sees_new get_push_self rfl, (K0.push _).push _⟩ | (refine ⟨?_, ((K0.push _).push _).push _⟩; refine sees_new (ro := false) ((get_push_ne ?_).trans ?_) rfl; (rw [push_next, push_next]; omega); exact get_push_self)
  by_cases k16 : k = 16
  · subst k16
    have hL : lops ⟨16, s, t, d, sh, m⟩ = [⟨2, d, 33, 0, 0#32⟩] := by simp [lops, k1]
    rw [hL]
    simp (maxSteps := 1000000) (disch := first | assumption | ((try simp only [push_next, put_next, adv_next, List.length_cons, List.length_nil, List.length_map, List.length_set]); omega) | simp) [k1, g1]
    first | exact sees_new get_push_self rfl | exact ⟨sees_new get_push_self rfl, K0⟩ | exact ⟨sees_new get_push_self rfl, (K0.push _).push _⟩ | (refine ⟨?_, ((K0.push _).push _).push _⟩; refine sees_new (ro := false) ((get_push_ne ?_).trans ?_) rfl; (rw [push_next, push_next]; omega); exact get_push_self)
  by_cases k15 : k = 15
  · subst k15
    have hL : lops ⟨15, s, t, d, sh, m⟩ = [⟨2, 32, s, 0, 0#32⟩] := by simp [lops, k1]
    rw [hL]
    simp (maxSteps := 1000000) (disch := first | assumption | ((try simp only [push_next, put_next, adv_next, List.length_cons, List.length_nil, List.length_map, List.length_set]); omega) | simp) [k1, g1]
    first | exact sees_new get_push_self rfl | exact ⟨sees_new get_push_self rfl, K0⟩ | exact ⟨sees_new get_push_self rfl, (K0.push _).push _⟩ | (refine ⟨?_, ((K0.push _).push _).push _⟩; refine sees_new (ro := false) ((get_push_ne ?_).trans ?_) rfl; (rw [push_next, push_next]; omega); exact get_push_self)
  by_cases k17 : k = 17
  · subst k17
    have hL : lops ⟨17, s, t, d, sh, m⟩ = [⟨2, 33, s, 0, 0#32⟩] := by simp [lops, k1]
    rw [hL]
    simp (maxSteps := 1000000) (disch := first | assumption | ((try simp only [push_next, put_next, adv_next, List.length_cons, List.length_nil, List.length_map, List.length_set]); omega) | simp) [k1, g1]
    first | exact sees_new get_push_self rfl | exact ⟨sees_new get_push_self rfl, K0⟩ | exact ⟨sees_new get_push_self rfl, (K0.push _).push _⟩ | (refine ⟨?_, ((K0.push _).push _).push _⟩; refine sees_new (ro := false) ((get_push_ne ?_).trans ?_) rfl; (rw [push_next, push_next]; omega); exact get_push_self)
  by_cases k3 : k ≤ 3
  · have hL : lops ⟨k, s, t, d, sh, m⟩ = [⟨1, 34, 0, 0, BitVec.ofInt 32 sh⟩, ⟨lkd k, d, t, 34, 0#32⟩] := by simp [lops, k0, k1, k13, k76, k77, k53, k14, k16, k15, k17, k3]
    rw [hL]
    simp (maxSteps := 1000000) (disch := first | assumption | ((try simp only [push_next, put_next, adv_next, List.length_cons, List.length_nil, List.length_map, List.length_set]); omega) | simp) [k0, k1, k13, k76, k77, k53, k14, k16, k15, k17, k3, g1, GCI_of (hki _)]
    first | exact sees_new get_push_self rfl | exact ⟨sees_new get_push_self rfl, K0⟩ | exact ⟨sees_new get_push_self rfl, (K0.push _).push _⟩ | (refine ⟨?_, ((K0.push _).push _).push _⟩; refine sees_new (ro := false) ((get_push_ne ?_).trans ?_) rfl; (rw [push_next, push_next]; omega); exact get_push_self)
  by_cases k6 : k ≤ 6
  · have hL : lops ⟨k, s, t, d, sh, m⟩ = [⟨lkd k, d, t, s, 0#32⟩] := by simp [lops, k0, k1, k13, k76, k77, k53, k14, k16, k15, k17, k3, k6]
    rw [hL]
    simp (maxSteps := 1000000) (disch := first | assumption | ((try simp only [push_next, put_next, adv_next, List.length_cons, List.length_nil, List.length_map, List.length_set]); omega) | simp) [k0, k1, k13, k76, k77, k53, k14, k16, k15, k17, k3, k6, g1, GCI_of (hki _)]
    first | exact sees_new get_push_self rfl | exact ⟨sees_new get_push_self rfl, K0⟩ | exact ⟨sees_new get_push_self rfl, (K0.push _).push _⟩ | (refine ⟨?_, ((K0.push _).push _).push _⟩; refine sees_new (ro := false) ((get_push_ne ?_).trans ?_) rfl; (rw [push_next, push_next]; omega); exact get_push_self)
  have hlast : ¬ (46 ≤ k ∧ k ≤ 52) → lops ⟨k, s, t, d, sh, m⟩ = [⟨lkd k, d, s, t, 0#32⟩] := fun hc => by simp only [lops]; rw [if_neg hN, if_neg k53, if_neg k14, if_neg k16, if_neg k15, if_neg k17, if_neg k3, if_neg k6, if_neg hc]
  by_cases k46 : 46 ≤ k
  · by_cases k52 : k ≤ 52
    · have hL : lops ⟨k, s, t, d, sh, m⟩ = [⟨1, 34, 0, 0, limm ⟨k, s, t, d, sh, m⟩⟩, ⟨lkd k, t, s, 34, 0#32⟩] := by simp [lops, k0, k1, k13, k76, k77, k53, k14, k16, k15, k17, k3, k6, k46, k52]
      have ha : aInto ⟨k, s, t, d, sh, m⟩ = t := by
        have : aIs k = true := by simp [aIs]; omega
        simp only [aInto, this]
        rw [if_neg (by decide), if_pos (by omega)]
      rw [hL]
      rw [ha] at hin
      simp (maxSteps := 1000000) (disch := first | assumption | ((try simp only [push_next, put_next, adv_next, List.length_cons, List.length_nil, List.length_map, List.length_set]); omega) | simp) [k0, k1, k13, k76, k77, k53, k14, k16, k15, k17, k3, k6, k46, k52, g1, r1, GCI_of (hki _), GCI_of (hin _), GCI_of (him _)]
      first | exact sees_new get_push_self rfl | exact ⟨sees_new get_push_self rfl, K0⟩ | exact ⟨sees_new get_push_self rfl, (K0.push _).push _⟩ | (refine ⟨?_, ((K0.push _).push _).push _⟩; refine sees_new (ro := false) ((get_push_ne ?_).trans ?_) rfl; (rw [push_next, push_next]; omega); exact get_push_self)
    · rw [hlast (by omega)]
      by_cases c : aInto ⟨k, s, t, d, sh, m⟩ = t
      · rw [c] at hin
        simp (maxSteps := 1000000) (disch := first | assumption | ((try simp only [push_next, put_next, adv_next, List.length_cons, List.length_nil, List.length_map, List.length_set]); omega) | simp) [k0, k1, k13, k76, k77, k53, k14, k16, k15, k17, k3, k6, k46, k52, g1, r1, GCI_of (hki _), GCI_of (hin _)]
        first | exact sees_new get_push_self rfl | exact ⟨sees_new get_push_self rfl, K0⟩ | exact ⟨sees_new get_push_self rfl, (K0.push _).push _⟩ | (refine ⟨?_, ((K0.push _).push _).push _⟩; refine sees_new (ro := false) ((get_push_ne ?_).trans ?_) rfl; (rw [push_next, push_next]; omega); exact get_push_self)
      · simp (maxSteps := 1000000) (disch := first | assumption | ((try simp only [push_next, put_next, adv_next, List.length_cons, List.length_nil, List.length_map, List.length_set]); omega) | simp) [k0, k1, k13, k76, k77, k53, k14, k16, k15, k17, k3, k6, k46, k52, g1, r1, c, GCI_of (hki _), GCI_of (hin _)]
        first | exact sees_new get_push_self rfl | exact ⟨sees_new get_push_self rfl, K0⟩ | exact ⟨sees_new get_push_self rfl, (K0.push _).push _⟩ | (refine ⟨?_, ((K0.push _).push _).push _⟩; refine sees_new (ro := false) ((get_push_ne ?_).trans ?_) rfl; (rw [push_next, push_next]; omega); exact get_push_self)
  · rw [hlast (by omega)]
    by_cases c : aInto ⟨k, s, t, d, sh, m⟩ = t
    · rw [c] at hin
      simp (maxSteps := 1000000) (disch := first | assumption | ((try simp only [push_next, put_next, adv_next, List.length_cons, List.length_nil, List.length_map, List.length_set]); omega) | simp) [k0, k1, k13, k76, k77, k53, k14, k16, k15, k17, k3, k6, k46, g1, r1, GCI_of (hki _), GCI_of (hin _)]
      first | exact sees_new get_push_self rfl | exact ⟨sees_new get_push_self rfl, K0⟩ | exact ⟨sees_new get_push_self rfl, (K0.push _).push _⟩ | (refine ⟨?_, ((K0.push _).push _).push _⟩; refine sees_new (ro := false) ((get_push_ne ?_).trans ?_) rfl; (rw [push_next, push_next]; omega); exact get_push_self)
    · simp (maxSteps := 1000000) (disch := first | assumption | ((try simp only [push_next, put_next, adv_next, List.length_cons, List.length_nil, List.length_map, List.length_set]); omega) | simp) [k0, k1, k13, k76, k77, k53, k14, k16, k15, k17, k3, k6, k46, g1, r1, c, GCI_of (hki _), GCI_of (hin _)]
      first | exact sees_new get_push_self rfl | exact ⟨sees_new get_push_self rfl, K0⟩ | exact ⟨sees_new get_push_self rfl, (K0.push _).push _⟩ | (refine ⟨?_, ((K0.push _).push _).push _⟩; refine sees_new (ro := false) ((get_push_ne ?_).trans ?_) rfl; (rw [push_next, push_next]; omega); exact get_push_self)
end
end Go.Proofs.YtmgoleiafiffoaaGreat.Cd

/- block: an instruction is put behind the others. -/
set_option maxRecDepth 1000000
set_option maxHeartbeats 8000000
set_option linter.unusedSimpArgs false
set_option linter.unusedVariables false
namespace Go.Proofs.YtmgoleiafiffoaaGreat.Cd
open Go Go.Dx
/-- A slice that lies in a cell. -/
structure Sl where
  a : Option Addr
  n : Nat
  c : Nat
def encSl : Enc Sl := ⟨1, fun x => [.slice x.a x.n x.c], fun _ => rfl, fun _ => rfl, by decide⟩
@[simp] theorem encSl_sz : encSl.sz = 1 := rfl
/-- A block's operations for an instruction. -/
def bop (i : Ins) : List IOp := if oks (lops i) then iopt (lops i) else []
/-- A block as it lies. -/
structure Bk (h : Hp) (p : Nat) (a : BitVec 32) (ws : List (BitVec 32)) (os : List Sl) (vw vi vo : Value) (fw fi fo : List Nat) : Prop where
  g : h.get p = some (.cells false [u32 a, vw, vi, vo])
  w : Own encW h vw ws fw
  i : Own encIns h vi (ws.map dOf) fi
  o : Own encSl h vo os fo
  dw : p ∉ fw
  di : p ∉ fi
  do' : p ∉ fo
  d1 : ∀ b ∈ fw, b ∉ fi ∧ b ∉ fo
  d2 : ∀ b ∈ fi, b ∉ fo
  ol : os.length = ws.length
  oc : ∀ (j : Nat) (s : Sl) (w : BitVec 32), os[j]? = some s → ws[j]? = some w → s.n = (bop (dOf w)).length ∧ Sees encOp h s.a (bop (dOf w)) ∧ ∀ A : Addr, s.a = some A → p < A.block ∧ A.block ∉ fw ∧ A.block ∉ fi ∧ A.block ∉ fo
theorem sees_keep {α : Type} {E : Enc α} {h h' : Hp} {a : Option Addr} {xs : List α} (x : Sees E h a xs) (hk : ∀ A, a = some A → h'.get A.block = h.get A.block) : Sees E h' a xs :=
  ⟨x.nil, fun A hA => rdn_kp (x.get A hA) (hk A hA), x.sp⟩
theorem sees_lt {α : Type} {E : Enc α} {h : Hp} {a : Option Addr} {xs : List α} (x : Sees E h a xs) : ∀ A, a = some A → A.block < h.next := fun A hA => lt_of_rdn (x.get A hA)
section
variable {h h' : Hp} {q : Value → Hp → Prop} {w a : BitVec 32} {p : Nat} {ws : List (BitVec 32)} {os : List Sl} {vw vi vo : Value} {fw fi fo : List Nat}
theorem badd (A : Bk h p a ws os vw vi vo fw fi fo) (hl : ws.length < 2 ^ 30) (hq : ∀ h' os' vw' vi' vo' fw' fi' fo', Bk h' p a (ws ++ [w]) os' vw' vi' vo' fw' fi' fo' → Upd h h' (p :: (fw ++ fi ++ fo)) (p :: (fw' ++ fi' ++ fo')) → q (.tuple #[]) h') :
    WC T n_block_Block_add [ptr p 0, u32 w, .agg (encIns.enc (dOf w)).toArray] h q := by
  have ltp := lt_of_get A.g
  have gp := A.g
  obtain ⟨aw, cw, rfl, _⟩ := A.w.len
  obtain ⟨ai, ci, rfl, _⟩ := A.i.len
  obtain ⟨ao, co, rfl, _⟩ := A.o.len
  simp only [List.length_map] at A gp
  rw [w_block_Block_add]
  simp (maxSteps := 1000000) (disch := first | assumption | ((try simp only [push_next, put_next, adv_next, List.length_cons, List.length_nil, List.length_map, List.length_set]); omega) | simp) [encIns, gp]
  generalize hH : Hp.put _ (h.next + 1) _ = H
  have nH : H.next = h.next + 3 := by rw [← hH]; rfl
  have gB : H.get h.next = some (.cells false (encIns.enc (dOf w))) := by rw [← hH, get_put_ne (by omega), adv_get, get_push_self]; rfl
  have gW : H.get (h.next + 1) = some (.cells false [u32 w]) := by rw [← hH, get_put_self (by simp)]
  have KH : Kp h H := by rw [← hH]; exact (((Kp.refl h).push _).adv 2).put (by omega) _
  clear hH
  have gpH := (KH.get p ltp).trans gp
  have li := fun b hb => A.i.live b hb
  have lw := fun b hb => A.w.live b hb
  have lo := fun b hb => A.o.live b hb
  refine GVI_app (E := encW) (bytes := 4) (ys := [w]) (A.w.kp KH) (sees_new gW rfl) rfl (by simp; omega) (by simp; omega) fun vw' h1 fw' O1 U1 => ?_
  have n1 := U1.le
  have gp1 := (U1.get p (by omega) A.dw).trans gpH
  have gB1 := (U1.get h.next (by omega) (fun hm => by have := lw _ hm; omega)).trans gB
  have rB1 := rdn_all (n := 6) gB1 rfl
  simp only [encIns] at gB1 rB1
  have fw1 : ∀ b ∈ fw', b ∈ fw ∨ H.next ≤ b := U1.sub
  have I1 : Own encIns h1 (.slice ai ws.length ci) (ws.map dOf) fi := (A.i.kp KH).keep fun b hb => U1.get b (by have := li b hb; omega) (fun hm => (A.d1 b hm).1 hb)
  have P1 : Own encSl h1 (.slice ao os.length co) os fo := (A.o.kp KH).keep fun b hb => U1.get b (by have := lo b hb; omega) (fun hm => (A.d1 b hm).2 hb)
  have z1 : ∀ b, b < h.next → b ∉ fw → h1.get b = h.get b := fun b hb hn => (U1.get b (by omega) hn).trans (KH.get b hb)
  simp (maxSteps := 1000000) (disch := first | assumption | ((try simp only [push_next, put_next, adv_next, List.length_cons, List.length_nil, List.length_map, List.length_set]); omega) | simp) [gp1, gB1, rB1]
  generalize hH1 : Hp.put h1 (h.next + 1 + 1) _ = H1
  have nH1 : H1.next = h1.next := by rw [← hH1]; rfl
  have kH1 : ∀ b, b ≠ h.next + 2 → H1.get b = h1.get b := fun b hb => by rw [← hH1, get_put_ne (by omega)]
  have gI : H1.get (h.next + 2) = some (.cells false (encIns.enc (dOf w))) := by rw [← hH1, get_put_self (by omega)]; rfl
  clear hH1
  refine GVI_app (E := encIns) (bytes := 48) (ys := [dOf w]) (I1.keep fun b hb => kH1 b (by have := li b hb; omega)) (sees_new gI (by simp)) rfl (by simp; omega) (by simp; omega) fun vi' h2 fi' O2 U2 => ?_
  have n2 := U2.le
  have fi1 : ∀ b ∈ fi', b ∈ fi ∨ H1.next ≤ b := U2.sub
  have gp2 := (U2.get p (by omega) A.di).trans ((kH1 p (by omega)).trans gp1)
  have gB2 := (U2.get h.next (by omega) (fun hm => by have := li _ hm; omega)).trans ((kH1 h.next (by omega)).trans gB1)
  have rB2 := rdn_all (n := 6) gB2 rfl
  have W2 : Own encW h2 vw' (ws ++ [w]) fw' := (O1.keep fun b hb => kH1 b (by
    rcases fw1 b hb with h5 | h5
    · have := lw b h5; omega
    · omega)).keep fun b hb => U2.get b (by have := O1.live b hb; omega) fun hm => by
      rcases fw1 b hb with h5 | h5
      · exact (A.d1 b h5).1 hm
      · have := li b hm; omega
  have P2 : Own encSl h2 (.slice ao os.length co) os fo := (P1.keep fun b hb => kH1 b (by have := lo b hb; omega)).keep fun b hb => U2.get b (by have := lo b hb; omega) fun hm => A.d2 b hm hb
  have z2 : ∀ b, b < h.next → b ∉ fw → b ∉ fi → h2.get b = h.get b := fun b hb hn hi => (U2.get b (by omega) hi).trans ((kH1 b (by omega)).trans (z1 b hb hn))
  obtain ⟨aw', cw', rfl, _⟩ := W2.len
  obtain ⟨ai', ci', rfl, _⟩ := O2.len
  simp only [List.length_append, List.length_map, List.length_singleton] at W2 O2
  have hlo := fun h => lift_of (h := h) (w := w)
  simp only [encIns] at hlo
  have lp2 := lt_of_get gp2
  simp (maxSteps := 1000000) (disch := first | assumption | ((try simp only [push_next, put_next, adv_next, List.length_cons, List.length_nil, List.length_map, List.length_set]); omega) | simp) [gp2, gB2, rB2]
  generalize hH3 : Hp.put h2 p _ = h3
  have n3 : h3.next = h2.next := by rw [← hH3]; rfl
  have k3 : ∀ b, b ≠ p → h3.get b = h2.get b := fun b hb => by rw [← hH3, get_put_ne (by omega)]
  have gp3 : h3.get p = some (.cells false [u32 a, .slice aw' (ws.length + 1) cw', .slice ai' (ws.length + 1) ci', .slice ao os.length co]) := by rw [← hH3, get_put_self lp2]
  clear hH3
  refine GCI_intro (hlo _) fun v h4 ⟨⟨al, cl, hv, Sl4⟩, K4⟩ => ?_
  subst hv
  have n4 := K4.le
  simp only [adv_next] at n4
  have k4 : ∀ b, b < h3.next → h4.get b = h3.get b := fun b hb => (K4.get b (by simp only [adv_next]; omega)).trans (adv_get ..)
  have gp4 := (k4 p (by omega)).trans gp3
  simp (maxSteps := 1000000) (disch := first | assumption | ((try simp only [push_next, put_next, adv_next, List.length_cons, List.length_nil, List.length_map, List.length_set]); omega) | simp) [gp4]
  refine GCI_intro (opt_Opt Sl4 (by have := lops_len (dOf w); omega)) fun v h5 ⟨O5, K5⟩ => ?_
  obtain ⟨a5, c5, rfl, S5, hc5, hf5⟩ := own_new_sees O5
  have hbop : (if oks (lops (dOf w)) then iopt (lops (dOf w)) else []) = bop (dOf w) := rfl
  rw [hbop] at S5 hc5 ⊢
  clear O5
  have n5 := K5.le
  have k5 : ∀ b, b < h3.next → h5.get b = h3.get b := fun b hb => (K5.get b (by omega)).trans (k4 b hb)
  have gp5 := (k5 p (by omega)).trans gp3
  simp (maxSteps := 1000000) (disch := first | assumption | ((try simp only [push_next, put_next, adv_next, List.length_cons, List.length_nil, List.length_map, List.length_set]); omega) | simp) [gp5]
  generalize hH5 : Hp.put h5 h2.next _ = H5
  have nH5 : H5.next = h5.next := by rw [← hH5]; rfl
  have kH5 : ∀ b, b ≠ h2.next → H5.get b = h5.get b := fun b hb => by rw [← hH5, get_put_ne hb]
  have gS : H5.get h2.next = some (.cells false [.slice a5 (bop (dOf w)).length c5]) := by rw [← hH5, get_put_self (by omega)]
  clear hH5
  have fi2 : ∀ b ∈ fi', b < h2.next := fun b hb => O2.live b hb
  have fw2 : ∀ b ∈ fw', b < h2.next := fun b hb => W2.live b hb
  have fo2 : ∀ b ∈ fo, b < h2.next := fun b hb => P2.live b hb
  have k25 : ∀ b, b < h2.next → b ≠ p → H5.get b = h2.get b := fun b hb hp => (kH5 b (by omega)).trans ((k5 b (by omega)).trans (k3 b hp))
  have pw' : p ∉ fw' := fun hm => by
    rcases fw1 p hm with h5 | h5
    · exact A.dw h5
    · omega
  have pi' : p ∉ fi' := fun hm => by
    rcases fi1 p hm with h5 | h5
    · exact A.di h5
    · omega
  have P5 : Own encSl H5 (.slice ao os.length co) os fo := P2.keep fun b hb => k25 b (fo2 b hb) fun hp => A.do' (hp ▸ hb)
  refine GVI_app (E := encSl) (bytes := 24) (ys := [⟨a5, (bop (dOf w)).length, c5⟩]) P5 (sees_new gS rfl) rfl (by have := A.ol; simp; omega) (by have := A.ol; simp; omega) fun vo' h6 fo' O6 U6 => ?_
  have n6 := U6.le
  have gp6 := (U6.get p (by omega) A.do').trans ((kH5 p (by omega)).trans gp5)
  obtain ⟨ao', co', rfl, _⟩ := O6.len
  have lp6 := lt_of_get gp6
  simp (maxSteps := 1000000) (disch := first | assumption | ((try simp only [push_next, put_next, adv_next, List.length_cons, List.length_nil, List.length_map, List.length_set]); omega) | simp) [gp6]
  have k26 : ∀ b, b < h2.next → b ≠ p → b ∉ fo → h6.get b = h2.get b := fun b hb hp hn => (U6.get b (by omega) hn).trans (k25 b hb hp)
  generalize hH7 : Hp.put h6 p _ = h7
  have n7 : h7.next = h6.next := by rw [← hH7]; rfl
  have k7 : ∀ b, b ≠ p → h7.get b = h6.get b := fun b hb => by rw [← hH7, get_put_ne hb]
  have gp7 : h7.get p = some (.cells false [u32 a, .slice aw' (ws.length + 1) cw', .slice ai' (ws.length + 1) ci', .slice ao' (os ++ [(⟨a5, (bop (dOf w)).length, c5⟩ : Sl)]).length co']) := by rw [← hH7, get_put_self lp6]; simp
  clear hH7
  have fo1 : ∀ b ∈ fo', b ∈ fo ∨ H5.next ≤ b := U6.sub
  have wo : ∀ b ∈ fw', b ∉ fo := fun b hb hm => by
    rcases fw1 b hb with h8 | h8
    · exact (A.d1 b h8).2 hm
    · have := lo b hm; omega
  have io : ∀ b ∈ fi', b ∉ fo := fun b hb hm => by
    rcases fi1 b hb with h8 | h8
    · exact A.d2 b h8 hm
    · have := lo b hm; omega
  have po' : p ∉ fo' := fun hm => by
    rcases fo1 p hm with h8 | h8
    · exact A.do' h8
    · omega
  have z7 : ∀ b, b < h.next → b ≠ p → b ∉ fw → b ∉ fi → b ∉ fo → h7.get b = h.get b := fun b hb h8 h9 h10 h11 =>
    (k7 b h8).trans ((k26 b (by omega) h8 h11).trans (z2 b hb h9 h10))
  refine hq h7 (os ++ [(⟨a5, (bop (dOf w)).length, c5⟩ : Sl)]) _ _ _ fw' fi' fo' ⟨gp7, ?_, ?_, ?_, pw', pi', po', fun b hb => ⟨fun hm => ?_, fun hm => ?_⟩, fun b hb hm => ?_, by simp [A.ol], fun j s w' hs hw => ?_⟩ ⟨by omega, fun b hb hn => ?_, fun b hb => ?_⟩
  · exact W2.keep fun b hb => (k7 b fun hp => pw' (hp ▸ hb)).trans (k26 b (fw2 b hb) (fun hp => pw' (hp ▸ hb)) (wo b hb))
  · have : List.map dOf (ws ++ [w]) = ws.map dOf ++ [dOf w] := by simp
    rw [this]
    exact O2.keep fun b hb => (k7 b fun hp => pi' (hp ▸ hb)).trans (k26 b (fi2 b hb) (fun hp => pi' (hp ▸ hb)) (io b hb))
  · exact O6.keep fun b hb => k7 b fun hp => po' (hp ▸ hb)
  · rcases fi1 b hm with h8 | h8
    · rcases fw1 b hb with h9 | h9
      · exact (A.d1 b h9).1 h8
      · have := li b h8; omega
    · have := O1.live b hb; omega
  · rcases fo1 b hm with h8 | h8
    · exact wo b hb h8
    · have := fw2 b hb; omega
  · rcases fo1 b hm with h8 | h8
    · exact io b hb h8
    · have := fi2 b hb; omega
  · have hol := A.ol
    by_cases hj : j < os.length
    · rw [List.getElem?_append_left hj] at hs
      rw [List.getElem?_append_left (by omega)] at hw
      obtain ⟨c1, c2, c3⟩ := A.oc j s w' hs hw
      have hlt := sees_lt c2
      refine ⟨c1, sees_keep c2 fun B hB => ?_, fun B hB => ?_⟩
      · obtain ⟨e1, e2, e3, e4⟩ := c3 B hB
        exact z7 _ (hlt B hB) (by omega) e2 e3 e4
      · obtain ⟨e1, e2, e3, e4⟩ := c3 B hB
        have hb := hlt B hB
        refine ⟨e1, fun hm => ?_, fun hm => ?_, fun hm => ?_⟩
        · rcases fw1 _ hm with h8 | h8
          · exact e2 h8
          · omega
        · rcases fi1 _ hm with h8 | h8
          · exact e3 h8
          · omega
        · rcases fo1 _ hm with h8 | h8
          · exact e4 h8
          · omega
    · have hj2 : j = os.length := by
        have := (List.getElem?_eq_some_iff.mp hs).1
        simp at this; omega
      subst hj2
      rw [List.getElem?_append_right (Nat.le_refl _), Nat.sub_self] at hs
      rw [hol, List.getElem?_append_right (Nat.le_refl _), Nat.sub_self] at hw
      simp only [List.getElem?_cons_zero, Option.some.injEq] at hs hw
      subst hs hw
      have hlt := sees_lt S5
      refine ⟨rfl, sees_keep S5 fun B hB => ?_, fun B hB => ?_⟩
      · have h8 := hlt B hB
        have h9 := hf5 B hB
        exact (k7 _ (by omega)).trans ((U6.get _ (by omega) fun hm => by have := fo2 _ hm; omega).trans (kH5 _ (by omega)))
      · have h8 := hlt B hB
        have h9 := hf5 B hB
        refine ⟨by omega, fun hm => ?_, fun hm => ?_, fun hm => ?_⟩
        · have := fw2 _ hm; omega
        · have := fi2 _ hm; omega
        · rcases fo1 _ hm with h10 | h10
          · have := fo2 _ h10; omega
          · omega
  · simp only [List.mem_cons, List.mem_append, not_or] at hn
    exact z7 b hb hn.1 hn.2.1.1 hn.2.1.2 hn.2.2
  · simp only [List.mem_cons, List.mem_append] at hb ⊢
    rcases hb with h8 | (h8 | h8) | h8
    · exact .inl (.inl h8)
    · rcases fw1 b h8 with h9 | h9
      · exact .inl (.inr (.inl (.inl h9)))
      · right; omega
    · rcases fi1 b h8 with h9 | h9
      · exact .inl (.inr (.inl (.inr h9)))
      · right; omega
    · rcases fo1 b h8 with h9 | h9
      · exact .inl (.inr (.inr h9))
      · right; omega
end
end Go.Proofs.YtmgoleiafiffoaaGreat.Cd

/- block: the block at a place. -/
set_option maxRecDepth 1000000
set_option maxHeartbeats 8000000
set_option linter.unusedSimpArgs false
set_option linter.unusedVariables false
namespace Go.Proofs.YtmgoleiafiffoaaGreat.Cd
open Go Go.Dx
/-- A block's row of operations. -/
def BO (h : Hp) (ws : List (BitVec 32)) (os : List Sl) (lo : Nat) : Prop := os.length = ws.length ∧ ∀ (j : Nat) (s : Sl) (w : BitVec 32), os[j]? = some s → ws[j]? = some w → s.n = (bop (dOf w)).length ∧ Sees encOp h s.a (bop (dOf w)) ∧ ∀ A : Addr, s.a = some A → lo ≤ A.block
/-- A block that is handed out. -/
def BR (h : Hp) (v : Value) (a : BitVec 32) (ws : List (BitVec 32)) (lo : Nat) : Prop :=
  ∃ (aw ai ao : Option Addr) (cw ci co : Nat) (os : List Sl), v = .tuple #[.agg #[u32 a, .slice aw ws.length cw, .slice ai ws.length ci, .slice ao ws.length co], .bool true] ∧ Sees encW h aw ws ∧ Sees encIns h ai (ws.map dOf) ∧ Sees encSl h ao os ∧ BO h ws os lo ∧ ∀ A : Addr, aw = some A ∨ ai = some A ∨ ao = some A → lo ≤ A.block
section
variable {h h' : Hp} {q : Value → Hp → Prop} {w a : BitVec 32} {x p : Nat} {ws : List (BitVec 32)} {os : List Sl} {vw vi vo : Value} {fw fi fo : List Nat} {B : By} {M W : List Bool}
theorem Bk.br {lo : Nat} (A : Bk h p a ws os vw vi vo fw fi fo) (hlp : lo ≤ p) (hlo : ∀ b, b ∈ fw ∨ b ∈ fi ∨ b ∈ fo → lo ≤ b) : ∃ aw ai ao cw ci co, vw = .slice aw ws.length cw ∧ vi = .slice ai ws.length ci ∧ vo = .slice ao ws.length co ∧ (∀ h' : Hp, (∀ b, b ∈ fw ∨ b ∈ fi ∨ b ∈ fo ∨ p < b → b < h.next → h'.get b = h.get b) → BR h' (.tuple #[.agg #[u32 a, vw, vi, vo], .bool true]) a ws lo) := by
  obtain ⟨aw, cw, rfl, sw, _, bw⟩ := A.w.len
  obtain ⟨ai, ci, rfl, si, _, bi⟩ := A.i.len
  obtain ⟨ao, co, rfl, so, _, bo⟩ := A.o.len
  have hol := A.ol
  refine ⟨aw, ai, ao, cw, ci, co, rfl, by simp, by rw [hol], fun h' hk => ?_⟩
  refine ⟨aw, ai, ao, cw, ci, co, os, by simp [hol], sees_keep sw fun B hB => ?_, sees_keep si fun B hB => ?_, sees_keep so fun B hB => ?_, ⟨hol, fun j s w hs hw => ?_⟩, fun B hB => ?_⟩
  · exact hk _ (.inl (bw B hB)) (sees_lt sw B hB)
  · exact hk _ (.inr (.inl (bi B hB))) (sees_lt si B hB)
  · exact hk _ (.inr (.inr (.inl (bo B hB)))) (sees_lt so B hB)
  · obtain ⟨c1, c2, c3⟩ := A.oc j s w hs hw
    refine ⟨c1, sees_keep c2 fun B hB => ?_, fun B hB => ?_⟩
    · obtain ⟨e1, e2, e3, e4⟩ := c3 B hB
      exact hk _ (.inr (.inr (.inr e1))) (sees_lt c2 B hB)
    · have := (c3 B hB).1
      omega
  · rcases hB with hB | hB | hB
    · exact hlo _ (.inl (bw B hB))
    · exact hlo _ (.inr (.inl (bi B hB)))
    · exact hlo _ (.inr (.inr (bo B hB)))
theorem Bk.kp (A : Bk h p a ws os vw vi vo fw fi fo) (K : Kp h h') : Bk h' p a ws os vw vi vo fw fi fo :=
  ⟨(K.get _ (lt_of_get A.g)).trans A.g, A.w.kp K, A.i.kp K, A.o.kp K, A.dw, A.di, A.do', A.d1, A.d2, A.ol, fun j s w hs hw => by
    obtain ⟨c1, c2, c3⟩ := A.oc j s w hs hw
    exact ⟨c1, c2.kp K, c3⟩⟩
theorem rem4 : (a % 4#32 = 0#32) ↔ a.toNat % 4 = 0 := by
  rw [← BitVec.toNat_inj]
  simp
theorem bfind_no {most : Int} (R : Ra h x B M W) (hc : ¬ (a.toNat % 4 = 0 ∧ a.toNat < B.length)) : WC T n_block_Find [ptr (x + 3) 0, u32 a, .int .i64 most] h fun v h' => Kp h h' ∧ v = .tuple #[.agg #[u32 0#32, .slice none 0 0, .slice none 0 0, .slice none 0 0], .bool false] := by
  have hsz := R.sz
  have hml := R.ml
  have eL : (BitVec.ofNat 32 B.length ≤ a) ↔ B.length ≤ a.toNat := by
    rw [BitVec.le_def, BitVec.toNat_ofNat, Nat.mod_eq_of_lt (by omega)]
  have hs0 := fun q => rsize (q := q) (R.kp ((Kp.refl h).push (.cells false [u32 0#32, .slice none 0 0, .slice none 0 0, .slice none 0 0])))
  rw [w_block_Find]
  by_cases c1 : a.toNat % 4 = 0
  case neg =>
    have c1' : ¬ a % 4#32 = 0#32 := fun hh => c1 (rem4.mp hh)
    simp (maxSteps := 1000000) (disch := first | assumption | ((try simp only [push_next, put_next, adv_next, List.length_cons, List.length_nil, List.length_map, List.length_set]); omega) | simp) [c1']
  have c1' : a % 4#32 = 0#32 := rem4.mpr c1
  have c2' : BitVec.ofNat 32 B.length ≤ a := eL.mpr (by omega)
  simp (maxSteps := 1000000) (disch := first | assumption | ((try simp only [push_next, put_next, adv_next, List.length_cons, List.length_nil, List.length_map, List.length_set]); omega) | simp) [c1', c2', GC_of hs0]
theorem bfind {most : Int} (R : Ra h x B M W) (c1 : a.toNat % 4 = 0) (c2 : a.toNat < B.length) : WC T n_block_Find [ptr (x + 3) 0, u32 a, .int .i64 most] h fun v h' => Kp h h' ∧ BR h' v a (bws B (max 1 (min most 32)).toNat true false a) h.next := by
  have hsz := R.sz
  have hml := R.ml
  have hlt := R.lt
  have eL : (BitVec.ofNat 32 B.length ≤ a) ↔ B.length ≤ a.toNat := by
    rw [BitVec.le_def, BitVec.toNat_ofNat, Nat.mod_eq_of_lt (by omega)]
  have hs0 := fun q => rsize (q := q) (R.kp ((Kp.refl h).push (.cells false [u32 0#32, .slice none 0 0, .slice none 0 0, .slice none 0 0])))
  have c1' : a % 4#32 = 0#32 := rem4.mpr c1
  have c2' : ¬ BitVec.ofNat 32 B.length ≤ a := fun hh => by have := eL.mp hh; omega
  obtain ⟨m, hm, h1, h2⟩ : ∃ m : Nat, (if 1 < if 32 < most then 32 else most then if 32 < most then 32 else most else 1) = (m : Int) ∧ 1 ≤ m ∧ m ≤ 32 := ⟨(max 1 (min most 32)).toNat, by omega, by omega, by omega⟩
  have em : (max 1 (min most 32)).toNat = m := by omega
  rw [em]
  rw [w_block_Find]
  simp (maxSteps := 1000000) (disch := first | assumption | ((try simp only [push_next, put_next, adv_next, List.length_cons, List.length_nil, List.length_map, List.length_set]); omega) | simp) [c1', c2', GC_of hs0, hm]
  generalize hP : Hp.push (Hp.push h _) _ = P
  have nP : P.next = h.next + 2 := by rw [← hP]; rfl
  have KP : Kp h P := by rw [← hP]; exact ((Kp.refl h).push _).push _
  have g6 : P.get h.next = some (.cells false [u32 0#32, .slice none 0 0, .slice none 0 0, .slice none 0 0]) := by rw [← hP, get_push_ne (by simp), get_push_self]
  have g8 : P.get (h.next + 1) = some (.cells false [u32 a, .slice none 0 0, .slice none 0 0, .slice none 0 0]) := by rw [← hP]; exact get_push_self
  have A0 : Bk P (h.next + 1) a [] [] (.slice none 0 0) (.slice none 0 0) (.slice none 0 0) [] [] [] := ⟨g8, .nul, .nul, .nul, by simp, by simp, by simp, by simp, by simp, rfl, by simp⟩
  clear g8 hP
  have fini : ∀ (e : Env) (h' : Hp) (ws : List (BitVec 32)) (os : List Sl) (vw vi vo : Value) (fw fi fo : List Nat), bws B m true false a = ws → e 6 = ptr h.next 0 → Bk h' (h.next + 1) a ws os vw vi vo fw fi fo →
      (∀ b, b ∈ fw ∨ b ∈ fi ∨ b ∈ fo → h.next + 1 < b) → Kp h h' → h'.get h.next = some (.cells false [u32 0#32, .slice none 0 0, .slice none 0 0, .slice none 0 0]) →
      GV T (fin [RV.ldn 4 6, RV.t 7] (some []) h.next fun v h' => Kp h h' ∧ BR h' v a (bws B m true false a) h.next) (Option.map (fun c => (Value.agg c.toArray, h')) (h'.rdn (h.next + 1) 0 4)) (some 81) [{ d := none, g := none, o := Op.stn 4 (X.t 6) (X.t 81) }, { d := some 7, g := none, o := Op.mov (X.c (Value.bool true)) }] [Fr.seq C.ret] e := fun e h' ws os vw vi vo fw fi fo hb e6 A hf K g6 => by
    rw [hb]
    obtain ⟨aw, ai, ao, cw, ci, co, rfl, rfl, rfl, hbr⟩ := A.br (lo := h.next) (by omega) (fun b hb => by have := hf b hb; omega)
    have gp := A.g
    have r8 := rdn_all (n := 4) gp rfl
    have l6 := lt_of_get g6
    simp (maxSteps := 1000000) (disch := first | assumption | ((try simp only [push_next, put_next, adv_next, List.length_cons, List.length_nil, List.length_map, List.length_set]); omega) | simp) [e6, r8, g6, l6]
    refine hbr _ fun b hb hl => ?_
    rw [get_put_ne]
    intro h0
    subst h0
    rcases hb with h5 | h5 | h5 | h5
    · have := hf _ (.inl h5); omega
    · have := hf _ (.inr (.inl h5)); omega
    · have := hf _ (.inr (.inr h5)); omega
    · omega
  refine G_loop (fun j e h' => ∃ (k : Nat) (ws : List (BitVec 32)) (os : List Sl) (vw vi vo : Value) (fw fi fo : List Nat) (slot : Bool), j = m - k ∧ k ≤ m ∧ ws.length = k ∧ bws B m true false a = ws ++ bws B (m - k) (decide (k = 0)) slot (a + BitVec.ofNat 32 (4 * k)) ∧ Bk h' (h.next + 1) a ws os vw vi vo fw fi fo ∧
    (∀ b, b ∈ fw ∨ b ∈ fi ∨ b ∈ fo → h.next + 1 < b) ∧ Kp h h' ∧ h'.get h.next = some (.cells false [u32 0#32, .slice none 0 0, .slice none 0 0, .slice none 0 0]) ∧ e 0 = ptr (x + 3) 0 ∧ e 1 = u32 a ∧ e 6 = ptr h.next 0 ∧ e 8 = ptr (h.next + 1) 0 ∧ e 9 = .bool slot ∧ e 35 = .int .i64 m ∧ e 36 = .int .i64 k) ?_ m _ _
    ⟨0, [], [], _, _, _, [], [], [], false, rfl, Nat.zero_le _, rfl, by simp, A0, by simp, KP, g6, by simp, by simp, by simp, by simp, by simp, by simp, by simp⟩
  clear A0 KP nP g6 P
  rintro j ih e h' ⟨k, ws, os, vw, vi, vo, fw, fi, fo, slot, rfl, hk, hwl, hb, A, hf, K, g6, e0, e1, e6, e8, e9, e35, e36⟩
  by_cases hkm : k < m
  case neg =>
    obtain rfl : k = m := by omega
    have hb' : bws B k true false a = ws := by rw [hb]; simp [bws]
    simp (maxSteps := 1000000) (disch := first | assumption | ((try simp only [push_next, put_next, adv_next, List.length_cons, List.length_nil, List.length_map, List.length_set]); omega) | simp) [e35, e36, e8]
    exact fini _ _ _ _ _ _ _ _ _ _ hb' (by simp [e6]) A hf K g6
  have hki : (k : Int) < m := by omega
  have R' := R.kp K
  have hy : BitVec.ofInt 32 (4 * (k : Int)) = BitVec.ofNat 32 (4 * k) := by
    rw [show (4 * (k : Int)) = ((4 * k : Nat) : Int) by omega, BitVec.ofInt_natCast]
  have hmk : m - k = (m - (k + 1)) + 1 := by omega
  generalize hyy : a + BitVec.ofNat 32 (4 * k) = y at hb
  have hy1 : y + 4#32 = a + BitVec.ofNat 32 (4 * (k + 1)) := by
    rw [← hyy, BitVec.add_assoc]
    congr 1
    apply BitVec.eq_of_toNat_eq
    simp
    omega
  have hld := fun q => rload (q := q) (a := y) (n := 4) R' (by omega)
  have hlw : (if evB B y 4 = true then ldB B y.toNat (Int.toNat 4) else 0#32) = ldw B y := rfl
  rw [hlw] at hld
  -- what is done behind the test of the page
  have main : ∀ e2 : Env, e2 0 = ptr (x + 3) 0 → e2 1 = u32 a → e2 6 = ptr h.next 0 → e2 8 = ptr (h.next + 1) 0 → e2 9 = .bool slot → e2 35 = .int .i64 m → e2 36 = .int .i64 k → e2 11 = u32 y → ¬ (decide (k = 0) = false ∧ y % 1024#32 = 0#32) → 
      G T (fin [RV.ldn 4 6, RV.t 7] (some []) h.next fun v h' => Kp h h' ∧ BR h' v a (bws B m true false a) h.next) c3_block_Find [Fr.block 1, Fr.seq (C.ops [{ d := some 80, g := none, o := Op.bin BinOp.add (X.t 36) (X.c (Value.int IntKind.i64 1)) }, { d := some 36, g := none, o := Op.mov (X.t 80) }]), Fr.loop c6_block_Find, Fr.block 0, Fr.seq ((C.ops [{ d := some 81, g := none, o := Op.ldn 4 (X.t 8) }, { d := none, g := none, o := Op.stn 4 (X.t 6) (X.t 81) }, { d := some 7, g := none, o := Op.mov (X.c (Value.bool true)) }]).seq C.ret)] e2 h' := fun e2 e0 e1 e6 e8 e9 e35 e36 e11 hpg => by
    rw [hmk, bws, if_neg hpg] at hb
    simp (maxSteps := 1000000) (disch := first | assumption | ((try simp only [push_next, put_next, adv_next, List.length_cons, List.length_nil, List.length_map, List.length_set]); omega) | simp) [e0, e11, GC_of hld]
    refine GC_intro (dec_of (w := ldw B y)) fun v h2 ⟨hv, K2⟩ => ?_
    subst hv
    have hkk := (dOf_bd (ldw B y)).1
    have hc := fun h q => dec_class (h := h) (q := q) hkk
    simp only [encIns] at hc
    simp (maxSteps := 1000000) (disch := first | assumption | ((try simp only [push_next, put_next, adv_next, List.length_cons, List.length_nil, List.length_map, List.length_set]); omega) | simp) [encIns, GC_of (hc _), -g1_block_Find]
    generalize hH : Hp.push (Hp.push h2 _) _ = H
    have KH : Kp h2 H := by rw [← hH]; exact ((Kp.refl h2).push _).push _
    have gB : H.get h2.next = some (.cells false (encIns.enc (dOf (ldw B y)))) := by rw [← hH, get_push_ne (by simp), get_push_self]; rfl
    clear hH hc hld
    have KhH : Kp h' H := K2.trans KH
    have A2 := A.kp KhH
    have rB := rdn_all (n := 6) gB rfl
    simp only [encIns] at rB
    have l6 := lt_of_get g6
    have g6' := (KhH.get _ l6).trans g6
    have K' := K.trans KhH
    generalize ldw B y = wd at *
    have lp := lt_of_get A2.g
    have after : ∀ (h3 : Hp) (os3 : List Sl) (vw3 vi3 vo3 : Value) (fw3 fi3 fo3 : List Nat), Bk h3 (h.next + 1) a (ws ++ [wd]) os3 vw3 vi3 vo3 fw3 fi3 fo3 → Upd H h3 ((h.next + 1) :: (fw ++ fi ++ fo)) ((h.next + 1) :: (fw3 ++ fi3 ++ fo3)) →
        (∀ b, b ∈ fw3 ∨ b ∈ fi3 ∨ b ∈ fo3 → h.next + 1 < b) ∧ Kp h h3 ∧ h3.get h.next = some (.cells false [u32 0#32, .slice none 0 0, .slice none 0 0, .slice none 0 0]) := fun h3 os3 vw3 vi3 vo3 fw3 fi3 fo3 A3 U3 => by
      refine ⟨fun b hb => ?_, U3.kp' K' fun b hb => ?_, (U3.get _ (by omega) fun hm => ?_).trans g6'⟩
      · have hne : b ≠ h.next + 1 := fun he => by
          subst he
          rcases hb with h5 | h5 | h5
          · exact A3.dw h5
          · exact A3.di h5
          · exact A3.do' h5
        rcases U3.sub b (by simp only [List.mem_cons, List.mem_append]; rcases hb with h5 | h5 | h5 <;> simp [h5]) with h5 | h5
        · simp only [List.mem_cons, List.mem_append] at h5
          rcases h5 with h5 | (h5 | h5) | h5
          · exact absurd h5 hne
          · exact hf b (.inl h5)
          · exact hf b (.inr (.inl h5))
          · exact hf b (.inr (.inr h5))
        · omega
      · simp only [List.mem_cons, List.mem_append] at hb
        rcases hb with h5 | (h5 | h5) | h5
        · omega
        · have := hf b (.inl h5); omega
        · have := hf b (.inr (.inl h5)); omega
        · have := hf b (.inr (.inr h5)); omega
      · simp only [List.mem_cons, List.mem_append] at hm
        rcases hm with h5 | (h5 | h5) | h5
        · omega
        · have := hf _ (.inl h5); omega
        · have := hf _ (.inr (.inl h5)); omega
        · have := hf _ (.inr (.inr h5)); omega
    cases slot with
    | true =>
      by_cases s6 : dcls (dOf wd).k = 6
      · have hb' : bws B m true false a = ws := by rw [hb, if_pos ⟨rfl, .inr s6⟩, List.append_nil]
        simp (maxSteps := 1000000) (disch := first | assumption | ((try simp only [push_next, put_next, adv_next, List.length_cons, List.length_nil, List.length_map, List.length_set]); omega) | simp) [e9, s6, e8]
        exact fini _ _ _ _ _ _ _ _ _ _ hb' (by simp [e6]) A2 hf K' g6'
      by_cases s3 : dcls (dOf wd).k = 3
      · have hb' : bws B m true false a = ws := by rw [hb, if_pos ⟨rfl, .inl s3⟩, List.append_nil]
        simp (maxSteps := 1000000) (disch := first | assumption | ((try simp only [push_next, put_next, adv_next, List.length_cons, List.length_nil, List.length_map, List.length_set]); omega) | simp) [e9, s3, e8]
        exact fini _ _ _ _ _ _ _ _ _ _ hb' (by simp [e6]) A2 hf K' g6'
      have hb' : bws B m true false a = ws ++ [wd] := by rw [hb, if_neg (by simp [s3, s6]), if_pos (.inl rfl)]
      simp (maxSteps := 1000000) (disch := first | assumption | ((try simp only [push_next, put_next, adv_next, List.length_cons, List.length_nil, List.length_map, List.length_set]); omega) | simp) [e9, s6, s3, e8, rB]
      refine badd A2 (by omega) fun h3 os3 vw3 vi3 vo3 fw3 fi3 fo3 A3 U3 => ?_
      obtain ⟨hf3, K3, g3⟩ := after _ _ _ _ _ _ _ _ A3 U3
      simp (maxSteps := 1000000) (disch := first | assumption | ((try simp only [push_next, put_next, adv_next, List.length_cons, List.length_nil, List.length_map, List.length_set]); omega) | simp) [s6, s3, e9, e8]
      exact fini _ _ _ _ _ _ _ _ _ _ hb' (by simp [e6]) A3 hf3 K3 g3
    | false =>
      by_cases s6 : dcls (dOf wd).k = 6
      · have hb' : bws B m true false a = ws ++ [wd] := by rw [hb, if_neg (by simp), if_pos (.inr s6)]
        simp (maxSteps := 1000000) (disch := first | assumption | ((try simp only [push_next, put_next, adv_next, List.length_cons, List.length_nil, List.length_map, List.length_set]); omega) | simp) [e9, s6, e8, rB]
        refine badd A2 (by omega) fun h3 os3 vw3 vi3 vo3 fw3 fi3 fo3 A3 U3 => ?_
        obtain ⟨hf3, K3, g3⟩ := after _ _ _ _ _ _ _ _ A3 U3
        simp (maxSteps := 1000000) (disch := first | assumption | ((try simp only [push_next, put_next, adv_next, List.length_cons, List.length_nil, List.length_map, List.length_set]); omega) | simp) [s6, e9, e8]
        exact fini _ _ _ _ _ _ _ _ _ _ hb' (by simp [e6]) A3 hf3 K3 g3
      by_cases s3 : dcls (dOf wd).k = 3
      · have hb' : bws B m true false a = ws ++ [wd] ++ bws B (m - (k + 1)) (decide (k + 1 = 0)) true (a + BitVec.ofNat 32 (4 * (k + 1))) := by rw [hb, if_neg (by simp), if_neg (by simp [s6]), hy1]; simp [s3]
        simp (maxSteps := 1000000) (disch := first | assumption | ((try simp only [push_next, put_next, adv_next, List.length_cons, List.length_nil, List.length_map, List.length_set]); omega) | simp) [e9, s3, e8, rB]
        refine badd A2 (by omega) fun h3 os3 vw3 vi3 vo3 fw3 fi3 fo3 A3 U3 => ?_
        obtain ⟨hf3, K3, g3⟩ := after _ _ _ _ _ _ _ _ A3 U3
        simp (maxSteps := 1000000) (disch := first | assumption | ((try simp only [push_next, put_next, adv_next, List.length_cons, List.length_nil, List.length_map, List.length_set]); omega) | simp) [s3, e9, e8, e36]
        exact ih (m - (k + 1)) (by omega) _ _ ⟨k + 1, ws ++ [wd], os3, vw3, vi3, vo3, fw3, fi3, fo3, true, rfl, by omega, by simp [hwl], hb', A3, hf3, K3, g3, by simp [e0], by simp [e1], by simp [e6], by simp [e8], by simp, by simp [e35], by simp⟩
      · have hb' : bws B m true false a = ws ++ [wd] ++ bws B (m - (k + 1)) (decide (k + 1 = 0)) false (a + BitVec.ofNat 32 (4 * (k + 1))) := by rw [hb, if_neg (by simp), if_neg (by simp [s6]), hy1]; simp [s3]
        simp (maxSteps := 1000000) (disch := first | assumption | ((try simp only [push_next, put_next, adv_next, List.length_cons, List.length_nil, List.length_map, List.length_set]); omega) | simp) [e9, s3, s6, e8, rB]
        refine badd A2 (by omega) fun h3 os3 vw3 vi3 vo3 fw3 fi3 fo3 A3 U3 => ?_
        obtain ⟨hf3, K3, g3⟩ := after _ _ _ _ _ _ _ _ A3 U3
        simp (maxSteps := 1000000) (disch := first | assumption | ((try simp only [push_next, put_next, adv_next, List.length_cons, List.length_nil, List.length_map, List.length_set]); omega) | simp) [s3, s6, e9, e8, e36]
        exact ih (m - (k + 1)) (by omega) _ _ ⟨k + 1, ws ++ [wd], os3, vw3, vi3, vo3, fw3, fi3, fo3, false, rfl, by omega, by simp [hwl], hb', A3, hf3, K3, g3, by simp [e0], by simp [e1], by simp [e6], by simp [e8], by simp, by simp [e35], by simp⟩
  by_cases k0 : k = 0
  · have k0' : ¬ 0 < k := by omega
    simp (maxSteps := 1000000) (disch := first | assumption | ((try simp only [push_next, put_next, adv_next, List.length_cons, List.length_nil, List.length_map, List.length_set]); omega) | simp) [e0, e1, e9, e35, e36, hki, hyy, hy, k0', -g3_block_Find]
    exact main _ (by simp [e0]) (by simp [e1]) (by simp [e6]) (by simp [e8]) (by simp [e9]) (by simp [e35]) (by simp [e36]) (by simp [hyy, hy]) (by simp [k0])
  by_cases pg : y % 1024#32 = 0#32
  · have k0' : 0 < k := by omega
    have hb' : bws B m true false a = ws := by rw [hb, hmk, bws, if_pos ⟨by simp [k0], pg⟩, List.append_nil]
    simp (maxSteps := 1000000) (disch := first | assumption | ((try simp only [push_next, put_next, adv_next, List.length_cons, List.length_nil, List.length_map, List.length_set]); omega) | simp) [e0, e1, e8, e35, e36, hki, k0', hyy, hy, pg, -g3_block_Find]
    exact fini _ _ _ _ _ _ _ _ _ _ hb' (by simp [e6]) A hf K g6
  · have k0' : 0 < k := by omega
    simp (maxSteps := 1000000) (disch := first | assumption | ((try simp only [push_next, put_next, adv_next, List.length_cons, List.length_nil, List.length_map, List.length_set]); omega) | simp) [e0, e1, e35, e36, hki, hyy, hy, k0', pg, -g3_block_Find]
    exact main _ (by simp [e0]) (by simp [e1]) (by simp [e6]) (by simp [e8]) (by simp [e9]) (by simp [e35]) (by simp [e36]) (by simp [hyy, hy]) (by simp [pg])
end
end Go.Proofs.YtmgoleiafiffoaaGreat.Cd

/- block: is memory still the same; the known runs; a law's memory. -/
set_option maxRecDepth 1000000
set_option maxHeartbeats 8000000
set_option linter.unusedSimpArgs false
set_option linter.unusedVariables false
namespace Go.Proofs.YtmgoleiafiffoaaGreat.Cd
open Go Go.Dx
section
variable {h h' : Hp} {q : Value → Hp → Prop} {w a : BitVec 32} {x p : Nat} {ws : List (BitVec 32)} {os : List Sl} {B : By} {M W : List Bool} {aw ai ao : Option Addr} {cw ci co : Nat}
theorem bsame (R : Ra h x B M W) (S : Sees encW h aw ws) (hl : ws.length < 2 ^ 30) (vi vo : Value) (hvi : one vi = true) (hvo : one vo = true) :
    WC T n_block_Same [.agg #[u32 a, .slice aw ws.length cw, vi, vo], ptr (x + 3) 0] h fun v h' => v = .bool (bsm B a 0 ws) ∧ Kp h h' := by
  rw [w_block_Same]
  simp (maxSteps := 1000000) (disch := first | assumption | ((try simp only [push_next, put_next, adv_next, List.length_cons, List.length_nil, List.length_map, List.length_set]); omega) | simp) [hvi, hvo]
  generalize hP : Hp.push h _ = P
  have gP : P.get h.next = some (.cells false [u32 a, .slice aw ws.length cw, vi, vo]) := by rw [← hP]; exact get_push_self
  have KP : Kp h P := by rw [← hP]; exact (Kp.refl h).push _
  have R' := R.kp KP
  have S' := S.kp KP
  refine G_loop (fun j e h' => ∃ us vs, j = vs.length ∧ ws = us ++ vs ∧ bsm B a 0 ws = bsm B a us.length vs ∧ h' = P ∧ e 1 = ptr (x + 3) 0 ∧ e 2 = ptr h.next 0 ∧ e 12 = .slice aw ws.length cw ∧ e 13 = .int .i64 ws.length ∧ e 14 = .int .i64 us.length) ?_ ws.length _ _ ⟨[], ws, rfl, rfl, rfl, rfl, by simp, by simp, by simp, by simp, by simp⟩
  rintro j ih e h' ⟨us, vs, rfl, hx, hb, rfl, e1, e2, e12, e13, e14⟩
  cases vs with
  | nil =>
    have hl : (ws.length : Int) = us.length := by rw [hx]; simp
    simp (maxSteps := 1000000) (disch := first | assumption | ((try simp only [push_next, put_next, adv_next, List.length_cons, List.length_nil, List.length_map, List.length_set]); omega) | simp) [e13, e14, hl]
    rw [hb]
    exact ⟨rfl, KP⟩
  | cons w vs =>
    have hlt : (us.length : Int) < ws.length := by rw [hx]; simp; omega
    have hlt' : us.length < ws.length := by omega
    obtain ⟨A, ro, C, rfl, hg, hC⟩ := Sees.cell (E := encW) (f := u32) (fun _ => rfl) rfl (us := us) (x := w) (vs := vs) (by rw [← hx]; exact S')
    have hy : BitVec.ofInt 32 (4 * (us.length : Int)) = BitVec.ofNat 32 (4 * us.length) := by
      rw [show (4 * (us.length : Int)) = ((4 * us.length : Nat) : Int) by omega, BitVec.ofInt_natCast]
    have hld := fun q => rload (q := q) (a := a + BitVec.ofNat 32 (4 * us.length)) (n := 4) R' (by omega)
    simp only [bsm] at hb
    have i4 : Int.toNat 4 = 4 := rfl
    rw [i4] at hld
    generalize hyy : a + BitVec.ofNat 32 (4 * us.length) = y at *
    by_cases he : evB B y 4 = true
    · rw [if_pos he] at hld
      by_cases hw : ldB B y.toNat 4 = w
      · rw [hw] at hld
        simp (maxSteps := 1000000) (disch := first | assumption | ((try simp only [push_next, put_next, adv_next, List.length_cons, List.length_nil, List.length_map, List.length_set]); omega) | simp) [e1, e2, e12, e13, e14, hlt, hlt', gP, hg, hC, hy, hyy, he, hw, GC_of hld]
        exact ih vs.length (by simp) _ _ ⟨us ++ [w], vs, rfl, by simp [hx], by rw [hb, he, hw]; simp, rfl, by simp [e1], by simp [e2], by simp [e12], by simp [e13], by simp⟩
      · simp (maxSteps := 1000000) (disch := first | assumption | ((try simp only [push_next, put_next, adv_next, List.length_cons, List.length_nil, List.length_map, List.length_set]); omega) | simp) [e1, e2, e12, e13, e14, hlt, hlt', gP, hg, hC, hy, hyy, he, hw, GC_of hld]
        rw [hb, he]
        simp [hw, KP]
    · rw [if_neg he] at hld
      simp (maxSteps := 1000000) (disch := first | assumption | ((try simp only [push_next, put_next, adv_next, List.length_cons, List.length_nil, List.length_map, List.length_set]); omega) | simp) [e1, e2, e12, e13, e14, hlt, hlt', gP, hg, hC, hy, hyy, he, GC_of hld]
      rw [hb]
      simp [he, KP]
theorem bsame_nil (v : Value) (vi vo : Value) (hv : one v = true) (hvi : one vi = true) (hvo : one vo = true) : WC T n_block_Same [.agg #[u32 a, v, vi, vo], .pointer none] h fun v h' => v = .bool false ∧ Kp h h' := by
  rw [w_block_Same]
  simp (maxSteps := 1000000) (disch := first | assumption | ((try simp only [push_next, put_next, adv_next, List.length_cons, List.length_nil, List.length_map, List.length_set]); omega) | simp) [hv, hvi, hvo]
theorem bfind_nil {most : Int} : WC T n_block_Find [.pointer none, u32 a, .int .i64 most] h fun v h' => Kp h h' ∧ v = .tuple #[.agg #[u32 0#32, .slice none 0 0, .slice none 0 0, .slice none 0 0], .bool false] := by
  rw [w_block_Find]
  simp (maxSteps := 1000000) (disch := first | assumption | ((try simp only [push_next, put_next, adv_next, List.length_cons, List.length_nil, List.length_map, List.length_set]); omega) | simp)
theorem bpage (v : Value) (vi vo : Value) (hv : one v = true) (hvi : one vi = true) (hvo : one vo = true) : WC T n_block_Block_Page [.agg #[u32 a, v, vi, vo]] h fun v h' => v = .int .i64 ((a / 1024#32).toNat : Int) ∧ Kp h h' := by
  rw [w_block_Block_Page]
  simp (maxSteps := 1000000) (disch := first | assumption | ((try simp only [push_next, put_next, adv_next, List.length_cons, List.length_nil, List.length_map, List.length_set]); omega) | simp) [hv, hvi, hvo]
theorem cut_sl {xs : By} {a : Option Addr} {c n : Nat} (S : Sees encB h a xs) (hc : xs.length ≤ c) (hn : n < xs.length) : ∃ a' c', sliceV 1 (.slice a xs.length c) none (some (.int .i64 n)) none = some (.slice a' (xs.take n).length c') ∧ (xs.take n).length ≤ c' ∧ Sees encB h a' (xs.take n) := by
  obtain ⟨a', c', h1, h2, h3⟩ := S.part (c := c) (lo := 0) (hi := n) (l := none) (u := some (.int .i64 n)) (by omega) (by omega) hc (.inl ⟨rfl, rfl⟩) (.inr ⟨.i64, rfl⟩)
  simp only [Nat.sub_zero, List.drop_zero, encB_sz] at h1 h2 h3
  have hl : (xs.take n).length = n := by rw [List.length_take]; omega
  exact ⟨a', c', by rw [hl]; exact h1, by omega, h3⟩
theorem bmem {im : By} {ai : Option Addr} {c : Nat} (S : Sees encB h ai im) (hc : im.length ≤ c) (hl : im.length < 2 ^ 40)
    (hq : ∀ (h' : Hp) (x y : Nat) (B : By) (M W M' W' : List Bool), Ra h' x B M W → Ra h' y B M' W' → h.next ≤ x → x + 3 < y → Kp h h' → B.length = 2048 → q (.tuple #[ptr (x + 3) 0, ptr (y + 3) 0]) h') : WC T n_pianolalaw21_memory [.slice ai im.length c] h q := by
  rw [w_pianolalaw21_memory]
  simp (maxSteps := 1000000) (disch := first | assumption | ((try simp only [push_next, put_next, adv_next, List.length_cons, List.length_nil, List.length_map, List.length_set]); omega) | simp)
  refine rnew fun h1 R1 K1 n1 => ?_
  rw [show (max 1 (min (2 : Int) 64)).toNat = 2 from rfl] at R1
  simp (maxSteps := 1000000) (disch := first | assumption | ((try simp only [push_next, put_next, adv_next, List.length_cons, List.length_nil, List.length_map, List.length_set]); omega) | simp)
  refine m2new fun h2 R2 K2 n2 => ?_
  rw [show pgs 2 = 2 from rfl] at R2
  have R1 := R1.kp K2
  have K12 := K1.trans K2
  have hB : (List.replicate (1024 * 2) 0#8 : By).length = 2048 := List.length_replicate
  generalize (List.replicate (1024 * 2) 0#8 : By) = B at *
  generalize List.replicate 2 false = M at *
  rw [n1] at R2 n2
  have S2 := S.kp K12
  obtain ⟨y, hy⟩ : ∃ y, y = h1.next := ⟨_, rfl⟩
  rw [n1] at hy
  rw [← hy] at R2
  have main : ∀ (im : By) (ai : Option Addr) (c : Nat) (e : Env), im.length ≤ 2048 → Sees encB h2 ai im → e 0 = .slice ai im.length c → e 4 = ptr (h.next + 3) 0 → e 5 = ptr (y + 3) 0 → (∀ A, ai = some A → A.block < h.next) → G T (fin [.t 2, .t 3] (some []) h.next q) c0_pianolalaw21_memory [] e h2 := fun im ai c e hl S e0 e4 e5 hlt => by
    have ht : thB B 0#32 im.length = true := by simp [thB, hB]; omega
    have h00 : (0#32).toNat = 0 := rfl
    simp (maxSteps := 1000000) (disch := first | assumption | ((try simp only [push_next, put_next, adv_next, List.length_cons, List.length_nil, List.length_map, List.length_set]); omega) | simp) [e0, e4]
    refine rput R1 S (by omega) (fun hf => by rw [ht] at hf; cases hf) fun _ h3 R3 U3 => ?_
    have R23 := R2.upd U3 fun b hb => by simp at hb; omega
    have l1 := R1.lt
    have S3 : Sees encB h3 ai im := S.upd U3 fun A hA hm => by have := hlt A hA; simp at hm; omega
    simp (maxSteps := 1000000) (disch := first | assumption | ((try simp only [push_next, put_next, adv_next, List.length_cons, List.length_nil, List.length_map, List.length_set]); omega) | simp) [e0, e5]
    refine zput R23 S3 (by omega) (fun hf => by rw [ht] at hf; cases hf) fun _ h4 R4 U4 => ?_
    have R34 := R3.upd U4 fun b hb => by simp at hb; omega
    simp (maxSteps := 1000000) (disch := first | assumption | ((try simp only [push_next, put_next, adv_next, List.length_cons, List.length_nil, List.length_map, List.length_set]); omega) | simp) [e4, e5]
    refine hq _ _ _ _ _ _ _ _ R34 R4 (Nat.le_refl _) (by omega) ?_ (by rw [ovB_length]; exact hB; rw [h00]; omega)
    exact U4.kp' (U3.kp' K12 (by simp)) (by simp; omega)
  have hlt0 := sees_lt S
  by_cases c1 : 2048 < im.length
  · have ci' : (2048 : Int) < im.length := by omega
    obtain ⟨a', c', h3, h4, h5⟩ := cut_sl S2 hc c1
    have h3' : sliceV 1 (.slice ai im.length c) none (some (.int .i64 2048)) none = some (.slice a' (im.take 2048).length c') := h3
    have hbk := sliceV_block h3
    have hl3 : (im.take 2048).length ≤ 2048 := by rw [List.length_take]; omega
    generalize im.take 2048 = im' at *
    simp (maxSteps := 1000000) (disch := first | assumption | ((try simp only [push_next, put_next, adv_next, List.length_cons, List.length_nil, List.length_map, List.length_set]); omega) | simp) [ci', h3', -g0_pianolalaw21_memory]
    exact main im' a' c' _ hl3 h5 (by simp) (by simp) (by simp [hy, n1]) fun A hA => by
      obtain ⟨A0, hA0, hAb⟩ := hbk A hA
      rw [hAb]; exact hlt0 A0 hA0
  · have ci' : ¬ (2048 : Int) < im.length := by omega
    simp (maxSteps := 1000000) (disch := first | assumption | ((try simp only [push_next, put_next, adv_next, List.length_cons, List.length_nil, List.length_map, List.length_set]); omega) | simp) [ci', -g0_pianolalaw21_memory]
    exact main im ai c _ (by omega) S2 (by simp) (by simp) (by simp [hy, n1]) hlt0
theorem bws_zero : bws (List.replicate 1024 0#8) 5 true false 0#32 = [0#32, 0#32, 0#32, 0#32, 0#32] := by decide +kernel
theorem bk21 : WC T n_pianolalaw21_known [] h fun v h' => v = .bool true ∧ Kp h h' := by
  rw [w_pianolalaw21_known]
  simp (maxSteps := 1000000) (disch := first | assumption | ((try simp only [push_next, put_next, adv_next, List.length_cons, List.length_nil, List.length_map, List.length_set]); omega) | simp)
  refine rnew fun h1 R1 K1 n1 => ?_
  rw [show (max 1 (min (1 : Int) 64)).toNat = 1 from rfl] at R1
  have hz := bws_zero
  have hB : (List.replicate (1024 * 1) 0#8 : By).length = 1024 := List.length_replicate
  have f1 := bfind (a := 0#32) (most := 5) R1 rfl (by rw [hB]; decide)
  rw [show (max 1 (min (5 : Int) 32)).toNat = 5 from rfl, show (List.replicate (1024 * 1) 0#8 : By) = List.replicate 1024 0#8 from rfl, hz] at f1
  have hsm : bsm (List.replicate (1024 * 1) 0#8) 0#32 0 [0#32, 0#32, 0#32, 0#32, 0#32] = true := by decide +kernel
  generalize (List.replicate (1024 * 1) 0#8 : By) = B at *
  simp (maxSteps := 1000000) (disch := first | assumption | ((try simp only [push_next, put_next, adv_next, List.length_cons, List.length_nil, List.length_map, List.length_set]); omega) | simp)
  refine GC_intro f1 fun v h2 ⟨K2, aw, ai, ao, cw, ci, co, os, hv, S1, S2, S3, hbo⟩ => ?_
  subst hv
  have R2 := R1.kp K2
  have K12 := K1.trans K2
  simp only [List.length_cons, List.length_nil] at *
  simp (maxSteps := 1000000) (disch := first | assumption | ((try simp only [push_next, put_next, adv_next, List.length_cons, List.length_nil, List.length_map, List.length_set]); omega) | simp)
  generalize hP : Hp.push h2 _ = P
  have gP : P.get h2.next = some (.cells false [u32 0#32, .slice aw 5 cw, .slice ai 5 ci, .slice ao 5 co]) := by rw [← hP]; exact get_push_self
  have KP : Kp h2 P := by rw [← hP]; exact (Kp.refl h2).push _
  clear hP
  have R3 := R2.kp KP
  refine GC_intro (bfind_no R3 (fun hh => absurd hh.1 (by decide))) fun v h3 ⟨K3, hv⟩ => ?_
  subst hv
  simp (maxSteps := 1000000) (disch := first | assumption | ((try simp only [push_next, put_next, adv_next, List.length_cons, List.length_nil, List.length_map, List.length_set]); omega) | simp)
  generalize hQ : Hp.push h3 _ = Q
  have KQ : Kp h3 Q := by rw [← hQ]; exact (Kp.refl h3).push _
  clear hQ
  refine GC_intro bfind_nil fun v h4 ⟨K4, hv⟩ => ?_
  subst hv
  have KP4 := (K3.trans KQ).trans K4
  have lP := lt_of_get gP
  have g4 := (KP4.get _ lP).trans gP
  simp (maxSteps := 1000000) (disch := first | assumption | ((try simp only [push_next, put_next, adv_next, List.length_cons, List.length_nil, List.length_map, List.length_set]); omega) | simp) [-g0_pianolalaw21_known]
  generalize hV : Hp.push h4 _ = V
  have KV : Kp h4 V := by rw [← hV]; exact (Kp.refl h4).push _
  clear hV
  have l4 := lt_of_get g4
  have gV := (KV.get _ l4).trans g4
  have rV := rdn_all (n := 4) gV rfl
  have KPV := KP4.trans KV
  simp (maxSteps := 1000000) (disch := first | assumption | ((try simp only [push_next, put_next, adv_next, List.length_cons, List.length_nil, List.length_map, List.length_set]); omega) | simp) [gV, rV]
  refine GC_intro (bpage _ _ _ rfl rfl rfl) fun v h5 ⟨hv, K5⟩ => ?_
  subst hv
  have rd := rdn_all (n := 4) ((K5.get _ (lt_of_get gV)).trans gV) rfl
  simp (maxSteps := 1000000) (disch := first | assumption | ((try simp only [push_next, put_next, adv_next, List.length_cons, List.length_nil, List.length_map, List.length_set]); omega) | simp) [rd]
  have R5 := (R3.kp KPV).kp K5
  have hs := bsame (a := 0#32) (cw := cw) R5 (((S1.kp KP).kp KPV).kp K5) (by decide) (.slice ai 5 ci) (.slice ao 5 co) rfl rfl
  rw [hsm] at hs
  refine GC_intro hs fun v h6 ⟨hv, K6⟩ => ?_
  subst hv
  simp (maxSteps := 1000000) (disch := first | assumption | ((try simp only [push_next, put_next, adv_next, List.length_cons, List.length_nil, List.length_map, List.length_set]); omega) | simp)
  exact (((K12.trans KP).trans KPV).trans K5).trans K6
end
end Go.Proofs.YtmgoleiafiffoaaGreat.Cd

/- The document's programs: an image comes, whatever is drawn. -/
set_option maxRecDepth 1000000
set_option maxHeartbeats 8000000
set_option linter.unusedSimpArgs false
set_option linter.unusedVariables false
namespace Go.Proofs.YtmgoleiafiffoaaGreat.Cd
open Go Go.Dx
section
variable {h h' : Hp} {q : Value → Hp → Prop}
/-- Bytes in a block. -/
def Bb (h : Hp) (b N : Nat) : Prop := ∃ B : By, B.length = N ∧ h.get b = some (.cells false (B.map u8))
theorem Bb.set {b N i : Nat} (A : Bb h b N) (hi : i < N) (c : BitVec 8) : ∃ h', h.wr b i [u8 c] = some h' ∧ Bb h' b N ∧ Upd h h' [b] [b] := by
  obtain ⟨B, hl, hg⟩ := A
  refine ⟨_, wr_ok hg (by simp; omega) rfl, ⟨B.set i c, by simp [hl], ?_⟩, ?_⟩
  · rw [get_put_self (lt_of_get hg), over_set (by simp; omega), List.map_set]
  · exact (Kp.upd (.refl h) _).put1
theorem Bb.kp {b N : Nat} (A : Bb h b N) (K : Kp h h') : Bb h' b N := by
  obtain ⟨B, hl, hg⟩ := A
  exact ⟨B, hl, (K.get _ (lt_of_get hg)).trans hg⟩
theorem k_put {bb N a : Nat} {l : List (BitVec 32)} {al : Option Addr} {cl : Nat} (A : Bb h bb N) (S : Sees encW h al l) (hN : N < 2 ^ 40) (ha : a < 2 ^ 40) (hl : l.length < 2 ^ 40) (hne : ∀ D, al = some D → D.block ≠ bb) :
    WC T n_pianolakeep_put [.slice (some ⟨bb, 0, none⟩) N N, .int .i64 (a : Int), .slice al l.length cl] h fun v h' => v = .tuple #[] ∧ Bb h' bb N ∧ Upd h h' [bb] [bb] := by
  rw [w_pianolakeep_put]
  simp (maxSteps := 1000000) (disch := first | assumption | ((try simp only [push_next, put_next, adv_next, List.length_cons, List.length_nil, List.length_map, List.length_set]); omega) | simp)
  refine G_loop (fun j e h' => ∃ i : Nat, j = l.length - i ∧ i ≤ l.length ∧ e 0 = .slice (some ⟨bb, 0, none⟩) N N ∧ e 1 = .int .i64 (a : Int) ∧ e 2 = .slice al l.length cl ∧ e 6 = .int .i64 i ∧ Bb h' bb N ∧ Upd h h' [bb] [bb]) ?_ l.length _ _ ⟨0, rfl, by omega, by simp, by simp, by simp, by simp, A, .refl⟩
  rintro j ih e h' ⟨i, rfl, hi, e0, e1, e2, e6, A', U'⟩
  by_cases c1 : i < l.length
  case neg =>
    have c1' : ¬ (i : Int) < l.length := by omega
    simp (maxSteps := 1000000) (disch := first | assumption | ((try simp only [push_next, put_next, adv_next, List.length_cons, List.length_nil, List.length_map, List.length_set]); omega) | simp) [e0, e1, e2, e6, c1']
    exact ⟨A', U'⟩
  have c1' : (i : Int) < l.length := by omega
  by_cases c2 : a + 4 * i + 4 ≤ N
  case neg =>
    have c2' : ¬ (a : Int) + 4 * i + 4 ≤ N := by omega
    simp (maxSteps := 1000000) (disch := first | assumption | ((try simp only [push_next, put_next, adv_next, List.length_cons, List.length_nil, List.length_map, List.length_set]); omega) | simp) [e0, e1, e2, e6, c1', c2']
    exact ⟨A', U'⟩
  have c2' : (a : Int) + 4 * i + 4 ≤ N := by omega
  simp (maxSteps := 1000000) (disch := first | assumption | ((try simp only [push_next, put_next, adv_next, List.length_cons, List.length_nil, List.length_map, List.length_set]); omega) | simp) [e0, e1, e2, e6, c1', c2']
  refine G_loop (fun j e' h'' => ∃ k : Nat, j = 4 - k ∧ k ≤ 4 ∧ e' 0 = e 0 ∧ e' 1 = e 1 ∧ e' 2 = e 2 ∧ e' 6 = e 6 ∧ e' 7 = .int .i64 k ∧ Bb h'' bb N ∧ Upd h h'' [bb] [bb]) ?_ 4 _ _ ⟨0, rfl, by omega, by simp, by simp, by simp, by simp, by simp, A', U'⟩
  rintro j ih2 e' h'' ⟨k, rfl, hk, f0, f1, f2, f6, f7, A2, U2⟩
  by_cases c3 : k < 4
  case neg =>
    obtain rfl : k = 4 := by omega
    simp (maxSteps := 1000000) (disch := first | assumption | ((try simp only [push_next, put_next, adv_next, List.length_cons, List.length_nil, List.length_map, List.length_set]); omega) | simp) [f0, f1, f2, f6, f7, e6]
    exact ih (l.length - (i + 1)) (by omega) _ _ ⟨i + 1, rfl, by omega, by simp [f0, e0], by simp [f1, e1], by simp [f2, e2], by simp, A2, U2⟩
  have c3' : (k : Int) < 4 := by omega
  have S2 := S.upd U2 fun D hD hm => hne D hD (by simpa using hm)
  have hx : l = l.take i ++ l[i] :: l.drop (i + 1) := by rw [List.getElem_cons_drop, List.take_append_drop]
  obtain ⟨D, ro, C, rfl, hg, hC⟩ := Sees.cell (E := encW) (f := u32) (fun _ => rfl) rfl (us := l.take i) (x := l[i]) (vs := l.drop (i + 1)) (by rw [← hx]; exact S2)
  rw [List.length_take, Nat.min_eq_left (by omega)] at hC
  have hix : ((a : Int) + 4 * i + k).toNat = a + 4 * i + k := by omega
  simp (maxSteps := 1000000) (disch := first | assumption | ((try simp only [push_next, put_next, adv_next, List.length_cons, List.length_nil, List.length_map, List.length_set]); omega) | simp) [f0, f1, f2, f6, f7, e0, e1, e2, e6, c3', c1, c1', hg, hC, hix, -Hp.wr]
  obtain ⟨h3, hw, A3, U3⟩ := A2.set (i := a + 4 * i + k) (by omega) (BitVec.setWidth 8 (l[i] >>> ((24 - 8 * (k : Int)) % 18446744073709551616).toNat))
  rw [hw]
  simp (maxSteps := 1000000) (disch := first | assumption | ((try simp only [push_next, put_next, adv_next, List.length_cons, List.length_nil, List.length_map, List.length_set]); omega) | simp) [f7]
  exact ih2 (4 - (k + 1)) (by omega) _ _ ⟨k + 1, rfl, by omega, by simp [f0], by simp [f1], by simp [f2], by simp [f6], by simp, A3, U2.trans U3⟩
/-- A row of words that grows: a table at first, its own block later; all at or behind lo. -/
def Rz (h : Hp) (lo : Nat) (v : Value) (xs : List (BitVec 32)) : Prop :=
  (∃ b, v = .slice (some ⟨b, 0, none⟩) xs.length xs.length ∧ lo ≤ b ∧ Sees encW h (some ⟨b, 0, none⟩) xs) ∨ (∃ fp, Own encW h v xs fp ∧ ∀ b ∈ fp, lo ≤ b)
/-- What lies ahead of lo is as it was. -/
structure KL (lo : Nat) (h h' : Hp) : Prop where
  le : h.next ≤ h'.next
  get : ∀ b, b < lo → h'.get b = h.get b
theorem KL.trans {lo : Nat} {a b c : Hp} (x : KL lo a b) (y : KL lo b c) : KL lo a c := ⟨Nat.le_trans x.le y.le, fun k hk => (y.get k hk).trans (x.get k hk)⟩
theorem _root_.Go.Dx.Kp.kl {lo : Nat} (K : Kp h h') (hl : lo ≤ h.next) : KL lo h h' := ⟨K.le, fun b hb => K.get b (by omega)⟩
theorem Rz.kp {lo : Nat} {v : Value} {xs : List (BitVec 32)} (R : Rz h lo v xs) (K : Kp h h') : Rz h' lo v xs := by
  rcases R with ⟨b, h1, h2, h3⟩ | ⟨fp, h1, h2⟩
  · exact .inl ⟨b, h1, h2, h3.kp K⟩
  · exact .inr ⟨fp, h1.kp K, h2⟩
theorem Rz.sees {lo : Nat} {v : Value} {xs : List (BitVec 32)} (R : Rz h lo v xs) : ∃ a c, v = .slice a xs.length c ∧ Sees encW h a xs ∧ ∀ A, a = some A → lo ≤ A.block := by
  rcases R with ⟨b, h1, h2, h3⟩ | ⟨fp, h1, h2⟩
  · exact ⟨_, _, h1, h3, fun A hA => by cases hA; exact h2⟩
  · obtain ⟨a, c, e, s, _, m⟩ := h1.len
    exact ⟨a, c, e, s, fun A hA => h2 _ (m A hA)⟩
theorem Rz.app {Q : Ex → Env → Hp → Prop} {k : List Fr} {e : Env} {d : Option Nat} {l : List O} {lo : Nat} {v : Value} {xs : List (BitVec 32)} {x : BitVec 32} (R : Rz h lo v xs) (hlo : lo ≤ h.next) (hl : xs.length < 2 ^ 30)
    (H : ∀ v' h', Rz h' lo v' (xs ++ [x]) → KL lo h h' → GO T Q l k (put e d v') h') : GV T Q (appendV (h.push (.cells false [u32 x])) 1 4 v (.slice (some ⟨h.next, 0, none⟩) 1 1)) d l k e := by
  rcases R with ⟨b, rfl, h2, h3⟩ | ⟨fp, h1, h2⟩
  · have hr := (h3.kp ((Kp.refl h).push (.cells false [u32 x]))).get _ rfl
    simp only [encW_sz, Nat.mul_one] at hr
    have ha : appendV (h.push (.cells false [u32 x])) 1 4 (.slice (some ⟨b, 0, none⟩) xs.length xs.length) (.slice (some ⟨h.next, 0, none⟩) 1 1) = some (.slice (some ⟨h.next + 1, 0, some 1⟩) (xs.length + 1) (xs.length + 1), (h.push (.cells false [u32 x])).push (.cells false (encW.all xs ++ [u32 x]))) := by
      have e2 : elems (h.push (.cells false [u32 x])) 1 1 (.slice (some ⟨h.next, 0, none⟩) 1 1) = some [u32 x] := elems_one (E := encW) (x := x) get_push_self
      simp only [appendV, lenV, e2]
      rw [if_pos (show [u32 x].length = 1 * 1 from rfl), if_neg (by omega), if_pos ⟨by omega, by omega⟩]
      simp only [Nat.mul_one, hr]
      rfl
    rw [ha]
    refine H _ _ (.inr ⟨[h.next + 1], ?_, by simp; omega⟩) ⟨by simp; omega, fun c hc => by rw [get_push_ne (by rw [push_next]; omega), get_push_ne (by omega)]⟩
    have := Own.blk (E := encW) (h := (h.push (.cells false [u32 x])).push (.cells false (encW.all xs ++ [u32 x]))) (b := h.next + 1) (n := xs.length + 1) (c := xs.length + 1) (xs := xs ++ [x]) (r := []) (by
      have : (h.push (.cells false [u32 x])).next = h.next + 1 := rfl
      rw [← this, get_push_self]
      simp [encW]) (by simp) (Nat.le_refl _) (by omega) (by simp)
    exact this
  · refine GV_app1 (E := encW) (bytes := 4) (x := x) h1 (by omega) (by omega) fun v' h' fp' O U => ?_
    refine H v' h' (.inr ⟨fp', O, fun b hb => ?_⟩) ⟨U.le, fun b hb => U.get b (by omega) fun hm => by have := h2 b hm; omega⟩
    rcases U.sub b hb with h5 | h5
    · exact h2 b h5
    · omega
theorem k_image {pg : Nat} {l : List In7} {al : Option Addr} {cl : Nat} (S : Sees encI7 h al l) (hp : 2 ≤ pg ∧ pg ≤ 64) (hl : l.length < 2 ^ 63) :
    WC T n_pianolakeep_Image [.slice al l.length cl, .int .i64 (pg : Int)] h fun v h' => (∃ bb, v = .slice (some ⟨bb, 0, none⟩) (1024 * pg) (1024 * pg) ∧ h.next ≤ bb ∧ Bb h' bb (1024 * pg)) ∧ Kp h h' := by
  have e2 : ((pg : Int) * 1024).toNat = 1024 * pg := by omega
  have kw := fun h i => k_word (h := h) (i := i)
  simp only [encIns] at kw
  rw [w_pianolakeep_Image]
  simp (maxSteps := 1000000) (disch := first | assumption | ((try simp only [push_next, put_next, adv_next, List.length_cons, List.length_nil, List.length_map, List.length_set]); omega) | simp) [e2]
  generalize hP : Hp.push h _ = P
  have nP : P.next = h.next + 1 := by rw [← hP]; rfl
  have KP : Kp h P := by rw [← hP]; exact (Kp.refl h).push _
  have A : Bb P h.next (1024 * pg) := ⟨List.replicate (1024 * pg) 0#8, List.length_replicate, by rw [← hP, get_push_self]; simp⟩
  clear hP
  refine GC_intro (kw _ ⟨60, 0, 0, 0, 0, 0#32⟩) fun v h1 ⟨⟨w1, hv⟩, K1⟩ => ?_
  subst hv
  have KP := KP.trans K1
  have A := A.kp K1
  simp (maxSteps := 1000000) (disch := first | assumption | ((try simp only [push_next, put_next, adv_next, List.length_cons, List.length_nil, List.length_map, List.length_set]); omega) | simp)
  refine GC_intro (k_put (a := 0) (l := [w1]) (A.kp ((Kp.refl h1).push _)) (sees_new get_push_self rfl) (by omega) (by omega) (by simp) fun D hD => ?_) fun v h2 ⟨hv, A, U2⟩ => ?_
  · cases hD
    have := KP.le
    show h1.next ≠ h.next
    obtain ⟨B, _, hg⟩ := A
    have := lt_of_get hg
    omega
  subst hv
  have KP : Kp h h2 := U2.kp' (KP.push _) (by simp)
  simp (maxSteps := 1000000) (disch := first | assumption | ((try simp only [push_next, put_next, adv_next, List.length_cons, List.length_nil, List.length_map, List.length_set]); omega) | simp)
  refine GC_intro (kw _ ⟨54, 0, 26, 14, 0, 0#32⟩) fun v h3 ⟨⟨w3, hv⟩, K3⟩ => ?_
  subst hv
  have KP := KP.trans K3
  have A := A.kp K3
  simp (maxSteps := 1000000) (disch := first | assumption | ((try simp only [push_next, put_next, adv_next, List.length_cons, List.length_nil, List.length_map, List.length_set]); omega) | simp)
  refine GC_intro (kw _ ⟨47, 26, 26, 0, 0, 4#32⟩) fun v h4 ⟨⟨w4, hv⟩, K4⟩ => ?_
  subst hv
  have KP := KP.trans K4
  have A := A.kp K4
  simp (maxSteps := 1000000) (disch := first | assumption | ((try simp only [push_next, put_next, adv_next, List.length_cons, List.length_nil, List.length_map, List.length_set]); omega) | simp)
  refine GC_intro (kw _ ⟨55, 0, 26, 14, 0, 0#32⟩) fun v h5 ⟨⟨w5, hv⟩, K5⟩ => ?_
  subst hv
  have KP := KP.trans K5
  have A := A.kp K5
  simp (maxSteps := 1000000) (disch := first | assumption | ((try simp only [push_next, put_next, adv_next, List.length_cons, List.length_nil, List.length_map, List.length_set]); omega) | simp)
  refine GC_intro (kw _ ⟨60, 0, 0, 0, 0, 0#32⟩) fun v h6 ⟨⟨w6, hv⟩, K6⟩ => ?_
  subst hv
  have KP := KP.trans K6
  have A := A.kp K6
  simp (maxSteps := 1000000) (disch := first | assumption | ((try simp only [push_next, put_next, adv_next, List.length_cons, List.length_nil, List.length_map, List.length_set]); omega) | simp)
  refine GC_intro (k_put (a := 384) (l := [w3, w4, w5, w6]) (A.kp ((Kp.refl h6).push _)) (sees_new get_push_self rfl) (by omega) (by omega) (by simp) fun D hD => ?_) fun v h7 ⟨hv, A, U7⟩ => ?_
  · cases hD
    show h6.next ≠ h.next
    obtain ⟨B, _, hg⟩ := A
    have := lt_of_get hg
    omega
  subst hv
  have KP : Kp h h7 := U7.kp' (KP.push _) (by simp)
  simp (maxSteps := 1000000) (disch := first | assumption | ((try simp only [push_next, put_next, adv_next, List.length_cons, List.length_nil, List.length_map, List.length_set]); omega) | simp)
  refine GC_intro (kw _ ⟨53, 0, 28, 0, 0, 32768#32⟩) fun v h8 ⟨⟨w8, hv⟩, K8⟩ => ?_
  subst hv
  have KP := KP.trans K8
  have A := A.kp K8
  simp (maxSteps := 1000000) (disch := first | assumption | ((try simp only [push_next, put_next, adv_next, List.length_cons, List.length_nil, List.length_map, List.length_set]); omega) | simp)
  refine GC_intro (kw _ ⟨51, 28, 29, 0, 0, 1024#32⟩) fun v h9 ⟨⟨w9, hv⟩, K9⟩ => ?_
  subst hv
  have KP := KP.trans K9
  have A := A.kp K9
  simp (maxSteps := 1000000) (disch := first | assumption | ((try simp only [push_next, put_next, adv_next, List.length_cons, List.length_nil, List.length_map, List.length_set]); omega) | simp)
  refine GC_intro (kw _ ⟨53, 0, 30, 0, 0, 48896#32⟩) fun v h10 ⟨⟨w10, hv⟩, K10⟩ => ?_
  subst hv
  have KP := KP.trans K10
  have A := A.kp K10
  simp (maxSteps := 1000000) (disch := first | assumption | ((try simp only [push_next, put_next, adv_next, List.length_cons, List.length_nil, List.length_map, List.length_set]); omega) | simp)
  refine GC_intro (kw _ ⟨51, 28, 31, 0, 0, 1536#32⟩) fun v h11 ⟨⟨w11, hv⟩, K11⟩ => ?_
  subst hv
  have KP := KP.trans K11
  have A := A.kp K11
  simp (maxSteps := 1000000) (disch := first | assumption | ((try simp only [push_next, put_next, adv_next, List.length_cons, List.length_nil, List.length_map, List.length_set]); omega) | simp)
  have l11 : h.next < h11.next := by
    obtain ⟨B, _, hg⟩ := A
    exact lt_of_get hg
  obtain ⟨lo, hlo⟩ : ∃ lo, lo = h11.next := ⟨_, rfl⟩
  have R0 : Rz (h11.push (.cells false [u32 w8, u32 w9, u32 w10, u32 w11])) lo (.slice (some ⟨h11.next, 0, none⟩) 4 4) [w8, w9, w10, w11] := .inl ⟨h11.next, rfl, by omega, sees_new get_push_self rfl⟩
  have KP := KP.push (.cells false [u32 w8, u32 w9, u32 w10, u32 w11])
  have A := A.kp ((Kp.refl h11).push (.cells false [u32 w8, u32 w9, u32 w10, u32 w11]))
  have l0 : lo ≤ (h11.push (.cells false [u32 w8, u32 w9, u32 w10, u32 w11])).next := by rw [push_next]; omega
  generalize h11.push (.cells false [u32 w8, u32 w9, u32 w10, u32 w11]) = H0 at *
  rw [← hlo]
  rw [← hlo] at R0 l11
  have hsl := sees_lt S
  refine G_loop (fun j e H => ∃ (i : Nat) (v : Value) (xs : List (BitVec 32)), j = 200 - i ∧ i ≤ l.length ∧ i ≤ 200 ∧ e 0 = .slice al l.length cl ∧ e 5 = .slice (some ⟨h.next, 0, none⟩) (1024 * pg) (1024 * pg) ∧ e 6 = v ∧ e 7 = .int .i64 i ∧ xs.length = i + 4 ∧ Rz H lo v xs ∧ KL lo H0 H) ?_ 200 _ _ ⟨0, _, _, rfl, by omega, by omega, by simp, by simp, by simp, by simp, rfl, R0, ⟨Nat.le_refl _, fun b _ => rfl⟩⟩
  clear R0
  rintro j ih e H ⟨i, v, xs, rfl, i1, i2, e0, e5, e6, e7, hxl, R, KL0⟩
  have hle := KL0.le
  have KH : Kp h H := ⟨by have := KP.le; omega, fun b hb => (KL0.get b (by omega)).trans (KP.get b hb)⟩
  have AH : Bb H h.next (1024 * pg) := by
    obtain ⟨B, hl, hg⟩ := A
    exact ⟨B, hl, (KL0.get _ l11).trans hg⟩
  have SH := S.kp KH
  by_cases c : i < l.length ∧ i < 200
  · obtain ⟨c1, c2⟩ := c
    have c1' : (i : Int) < l.length := by omega
    have c2' : (i : Int) < 200 := by omega
    have hx : l = l.take i ++ l[i] :: l.drop (i + 1) := by rw [List.getElem_cons_drop, List.take_append_drop]
    obtain ⟨D, rfl, hr⟩ := Sees.mid (A := l.take i) (x := l[i]) (B := l.drop (i + 1)) (by rw [← hx]; exact SH)
    rw [List.length_take, Nat.min_eq_left (by omega)] at hr
    have hc := fun h => k_code (h := h) (x := l[i])
    have hr' : H.rdn D.block (D.off + i * 7) 7 = some (encI7.enc l[i]) := hr
    generalize l[i] = x at *
    simp (maxSteps := 1000000) (disch := first | assumption | ((try simp only [push_next, put_next, adv_next, List.length_cons, List.length_nil, List.length_map, List.length_set]); omega) | simp) [e0, e6, e7, c1, c1', c2', hr']
    refine GC_intro (hc _) fun v2 h2 ⟨⟨w, hv⟩, K2⟩ => ?_
    subst hv
    simp (maxSteps := 1000000) (disch := first | assumption | ((try simp only [push_next, put_next, adv_next, List.length_cons, List.length_nil, List.length_map, List.length_set]); omega) | simp)
    have K2l := K2.kl (lo := lo) (by omega)
    refine (R.kp K2).app (by have := K2l.le; omega) (by omega) fun v3 h3 R3 K3 => ?_
    simp (maxSteps := 1000000) (disch := first | assumption | ((try simp only [push_next, put_next, adv_next, List.length_cons, List.length_nil, List.length_map, List.length_set]); omega) | simp) [e7]
    exact ih (200 - (i + 1)) (by omega) _ _ ⟨i + 1, v3, xs ++ [w], rfl, by omega, by omega, by simp [e0], by simp [e5], by simp, by simp, by simp [hxl], R3, (KL0.trans K2l).trans K3⟩
  · have fin2 : ∀ e' : Env, e' 5 = .slice (some ⟨h.next, 0, none⟩) (1024 * pg) (1024 * pg) → e' 6 = v → G T (fin [RV.t 4] (some []) h.next fun v h' => (∃ bb, v = .slice (some ⟨bb, 0, none⟩) (1024 * pg) (1024 * pg) ∧ h.next ≤ bb ∧ Bb h' bb (1024 * pg)) ∧ Kp h h') c2_pianolakeep_Image [] e' H := fun e' f5 f6 => by
      obtain ⟨ac, cc, rfl, Sc, hb⟩ := R.sees
      by_cases c3 : xs.length * 4 + 1024 ≤ 1024 * pg
      · have c3' : (xs.length : Int) * 4 + 1024 ≤ 1024 * (pg : Int) := by omega
        simp (maxSteps := 1000000) (disch := first | assumption | ((try simp only [push_next, put_next, adv_next, List.length_cons, List.length_nil, List.length_map, List.length_set]); omega) | simp) [f5, f6, c3']
        refine GC_intro (k_put (a := 1024) AH Sc (by omega) (by omega) (by omega) fun D hD => by have := hb D hD; omega) fun v h2 ⟨hv, A2, U2⟩ => ?_
        subst hv
        simp (maxSteps := 1000000) (disch := first | assumption | ((try simp only [push_next, put_next, adv_next, List.length_cons, List.length_nil, List.length_map, List.length_set]); omega) | simp) [f5]
        exact ⟨A2, U2.kp' KH (by simp)⟩
      · have c3' : ¬ (xs.length : Int) * 4 + 1024 ≤ 1024 * (pg : Int) := by omega
        simp (maxSteps := 1000000) (disch := first | assumption | ((try simp only [push_next, put_next, adv_next, List.length_cons, List.length_nil, List.length_map, List.length_set]); omega) | simp) [f5, f6, c3']
        exact ⟨AH, KH⟩
    by_cases c1 : i < l.length
    · have c1' : (i : Int) < l.length := by omega
      have c2' : ¬ (i : Int) < 200 := by omega
      simp (maxSteps := 1000000) (disch := first | assumption | ((try simp only [push_next, put_next, adv_next, List.length_cons, List.length_nil, List.length_map, List.length_set]); omega) | simp) [e0, e7, c1', c2', -g2_pianolakeep_Image]
      exact fin2 _ (by simp [e5]) (by simp [e6])
    · have c1' : ¬ (i : Int) < l.length := by omega
      simp (maxSteps := 1000000) (disch := first | assumption | ((try simp only [push_next, put_next, adv_next, List.length_cons, List.length_nil, List.length_map, List.length_set]); omega) | simp) [e0, e7, c1', -g2_pianolakeep_Image]
      exact fin2 _ (by simp [e5]) (by simp [e6])
end
end Go.Proofs.YtmgoleiafiffoaaGreat.Cd

/- BlockEnds: what it answers. -/
set_option maxRecDepth 1000000
set_option maxHeartbeats 8000000
set_option linter.unusedSimpArgs false
set_option linter.unusedVariables false
namespace Go.Proofs.YtmgoleiafiffoaaGreat.Cd
open Go Go.Dx
/-- Where a law looks. -/
def kat (a : BitVec 32) : BitVec 32 := 1024#32 + a % 200#32 * 4#32
theorem kat_nat (a : BitVec 32) : (kat a).toNat = 1024 + a.toNat % 200 * 4 := by
  unfold kat
  rw [BitVec.toNat_add, BitVec.toNat_mul, BitVec.toNat_umod]
  simp
  omega
section
variable {g h h' : Hp} {q : Value → Hp → Prop} {l : List In7} {al : Option Addr} {cl : Nat} {a : BitVec 32} {most less : Int}
end
end Go.Proofs.YtmgoleiafiffoaaGreat.Cd

/- BlockSame: what it answers. -/
set_option maxRecDepth 1000000
set_option maxHeartbeats 8000000
set_option linter.unusedSimpArgs false
set_option linter.unusedVariables false
namespace Go.Proofs.YtmgoleiafiffoaaGreat.Cd
open Go Go.Dx
section
variable {g h h' : Hp} {q : Value → Hp → Prop} {l : List In7} {al : Option Addr} {cl : Nat} {a t : BitVec 32} {bit : BitVec 8}
theorem bsames (S : Sees encI7 g al l) (hl : l.length < 2 ^ 63) : WC T n_pianolalaw21_BlockSame [.slice al l.length cl, u32 a, u32 t, u8 bit] g fun v h' => v = .bool true := by
  have hk := kat_nat a
  have hka : 1024#32 + a % 200#32 * 4#32 = kat a := rfl
  rw [w_pianolalaw21_BlockSame]
  simp (maxSteps := 1000000) (disch := first | assumption | ((try simp only [push_next, put_next, adv_next, List.length_cons, List.length_nil, List.length_map, List.length_set]); omega) | simp)
  refine GC_intro (k_image (pg := 2) S (by omega) hl) fun v h1 ⟨⟨bb, hv, hbb, B0, hB0, hg0⟩, K1⟩ => ?_
  subst hv
  simp (maxSteps := 1000000) (disch := first | assumption | ((try simp only [push_next, put_next, adv_next, List.length_cons, List.length_nil, List.length_map, List.length_set]); omega) | simp)
  have hm := bmem (h := h1) (im := B0) (ai := some ⟨bb, 0, none⟩) (c := 2048) (q := fun v h' => ∃ (x y : Nat) (B : By) (M W M' W' : List Bool), Ra h' x B M W ∧ Ra h' y B M' W' ∧ h1.next ≤ x ∧ x + 3 < y ∧ Kp h1 h' ∧ B.length = 2048 ∧ v = .tuple #[ptr (x + 3) 0, ptr (y + 3) 0]) (sees_b hg0) (by omega) (by omega) fun h' x y B M W M' W' a1 a2 a3 a4 a5 a6 => ⟨x, y, B, M, W, M', W', a1, a2, a3, a4, a5, a6, rfl⟩
  rw [hB0] at hm
  refine GC_intro hm fun v h2 ⟨x, y, B, MM, WW, _, _, R, _, hx, _, K2, hB, hv⟩ => ?_
  subst hv
  simp (maxSteps := 1000000) (disch := first | assumption | ((try simp only [push_next, put_next, adv_next, List.length_cons, List.length_nil, List.length_map, List.length_set]); omega) | simp) [hka]
  generalize kat a = k at *
  have k4 : k.toNat % 4 = 0 := by omega
  have k1 : 1024 ≤ k.toNat := by omega
  have k2 : k.toNat < 2048 := by omega
  refine GC_intro (bfind R k4 (by omega)) fun v h3 ⟨K3, hbr⟩ => ?_
  rw [show (max 1 (min (32 : Int) 32)).toNat = 32 from rfl] at hbr
  have hp := bws_page (B := B) (n := 32) (f := true) (s := false) k4
  have hpos := bws_pos (B := B) (n := 31) (a := k)
  have hlen := bws_len (B := B) (n := 32) (f := true) (s := false) (a := k)
  have h1024 : k.toNat % 1024 = k.toNat - 1024 := by omega
  rw [h1024] at hp
  have hself := bsm_self (n := 32) hB k1 k2 k4
  have hset := fun c x b hb => bsm_set (n := 32) (c := c) (x := x) (b := b) hB k1 k2 k4 hb
  generalize bws B 32 true false k = ws at *
  obtain ⟨aw, ai, ao, cw, ci, co, os, hv, Sw, Si, So, hbo, hfr⟩ := hbr
  subst hv
  have R3 := R.kp K3
  have c1 : ¬ (ws.length : Int) = 0 := by omega
  have c1' : ¬ ws.length = 0 := by omega
  have c1'' : ¬ ws = [] := fun hh => by simp [hh] at hpos
  obtain ⟨c, hcdef⟩ : ∃ c, c = 768#32 + t % 1024#32 := ⟨_, rfl⟩
  have hcn : c.toNat = 768 + t.toNat % 1024 := by
    rw [hcdef, BitVec.toNat_add, BitVec.toNat_umod]
    simp
    omega
  simp (maxSteps := 1000000) (disch := first | assumption | ((try simp only [push_next, put_next, adv_next, List.length_cons, List.length_nil, List.length_map, List.length_set]); omega) | simp) [c1, c1', c1'', ← hcdef, -g4_pianolalaw21_BlockSame]
  generalize hP : Hp.push h3 _ = P
  have gA : P.get h3.next = some (.cells false [u32 k, .slice aw ws.length cw, .slice ai ws.length ci, .slice ao ws.length co]) := by rw [← hP]; exact get_push_self
  have KP : Kp h3 P := by rw [← hP]; exact (Kp.refl h3).push _
  clear hP
  have R4 := R3.kp KP
  have Sw4 := Sw.kp KP
  have hcl : c.toNat < B.length := by omega
  have hbv := List.getElem?_eq_getElem hcl
  generalize hbb0 : B[c.toNat]'hcl = b at *
  have he : evB B c 1 = true := by simp [evB]; omega
  have hld := fun q => rload (q := q) (a := c) (n := 1) R4 (by omega)
  rw [he, if_pos rfl, show Int.toNat 1 = 1 from rfl, ldB_one hbv] at hld
  simp (maxSteps := 1000000) (disch := first | assumption | ((try simp only [push_next, put_next, adv_next, List.length_cons, List.length_nil, List.length_map, List.length_set]); omega) | simp) [GC_of hld]
  have hx2 : (BitVec.setWidth 32 b ^^^ BitVec.setWidth 32 bit).setWidth 8 = b ^^^ bit := by
    apply BitVec.eq_of_getLsbD_eq
    intro i hi
    have hi' : i < 8 := hi
    simp [hi', show i < 32 by omega]
  refine rstore R4 (by omega) (fun hf => by rw [he] at hf; cases hf) fun _ h5 R5 U5 => ?_
  rw [show Int.toNat 1 = 1 from rfl, stB_one hcl, hx2] at R5
  have hxl : x + 3 < h2.next := R.lt
  have hn3 := K3.le
  have Sw5 : Sees encW h5 aw ws := Sw4.upd U5 fun A hA hm => by
    have := hfr A (.inl hA)
    simp at hm; omega
  have gA5 := (U5.get _ (lt_of_get gA) (by simp; omega)).trans gA
  have rA5 := rdn_all (n := 4) gA5 rfl
  -- is it in the block?
  have hkl : (k + BitVec.ofInt 32 (4 * (ws.length : Int))).toNat = k.toNat + 4 * ws.length := by
    rw [show (4 * (ws.length : Int)) = ((4 * ws.length : Nat) : Int) by omega, BitVec.ofInt_natCast, BitVec.toNat_add, BitVec.toNat_ofNat]
    omega
  have hxor : (b ^^^ bit = b) ↔ bit = 0#8 := by
    constructor
    · intro hh
      have : b ^^^ (b ^^^ bit) = b ^^^ b := by rw [hh]
      rw [← BitVec.xor_assoc, BitVec.xor_self, BitVec.zero_xor] at this
      exact this
    · intro hh; rw [hh]; simp
  have hs1 := hset c.toNat (b ^^^ bit) b hbv
  rw [hxor] at hs1
  have key : bsm (B.set c.toNat (b ^^^ bit)) k 0 ws = !decide (k ≤ c ∧ c < k + BitVec.ofInt 32 (4 * (ws.length : Int)) ∧ ¬ bit = 0#8) := by
    rw [Bool.eq_iff_iff, hs1]
    simp only [Bool.not_eq_true', decide_eq_false_iff_not, BitVec.le_def, BitVec.lt_def, hkl]
    by_cases hb0 : bit = 0#8
    · simp [hb0]
    · simp only [hb0, not_false_eq_true, and_true, false_or]
      omega
  have hsame := fun P (Q : Ra P x (B.set c.toNat (b ^^^ bit)) MM (tch MM WW c.toNat 1)) (S : Sees encW P aw ws) => bsame (a := k) (cw := cw) Q S (by omega) (.slice ai ws.length ci) (.slice ao ws.length co) rfl rfl
  rw [key] at hsame
  have rest : ∀ (e' : Env) (t : Bool), t = decide (k ≤ c ∧ c < k + BitVec.ofInt 32 (4 * (ws.length : Int)) ∧ ¬ bit = 0#8) → e' 9 = ptr (x + 3) 0 → e' 12 = ptr h3.next 0 → e' 14 = u32 c → e' 15 = u32 (BitVec.setWidth 32 b) → e' 17 = .bool t → G T (fin [RV.t 8] (some []) g.next fun v h' => v = Value.bool true) c1_pianolalaw21_BlockSame [] e' h5 := fun e' t ht e9 e12 e14 e15 e17 => by
    rw [← ht] at hsame
    simp (maxSteps := 1000000) (disch := first | assumption | ((try simp only [push_next, put_next, adv_next, List.length_cons, List.length_nil, List.length_map, List.length_set]); omega) | simp) [e9, e12, rA5]
    refine GC_intro (hsame h5 R5 Sw5) fun v h6 ⟨hv, K6⟩ => ?_
    subst hv
    have R6 := R5.kp K6
    have Sw6 := Sw5.kp K6
    have gA6 := (K6.get _ (lt_of_get gA5)).trans gA5
    have he6 : evB (B.set c.toNat (b ^^^ bit)) c 1 = true := by simp [evB]; omega
    have hl6 : c.toNat < (B.set c.toNat (b ^^^ bit)).length := by simpa using hcl
    have hback : (B.set c.toNat (b ^^^ bit)).set c.toNat b = B := by
      rw [List.set_set, ← hbb0]; exact List.set_getElem_self _
    have back : ∀ e2 : Env, e2 9 = ptr (x + 3) 0 → e2 12 = ptr h3.next 0 → e2 14 = u32 c → e2 15 = u32 (BitVec.setWidth 32 b) → GC T (fin [RV.t 8] (some []) g.next fun v h' => v = Value.bool true) n_ram_Ram_Store [ptr (x + 3) 0, u32 c, .int .i64 1, u32 (BitVec.setWidth 32 b)] (some 86) [] [Fr.seq c0_pianolalaw21_BlockSame] e2 h6 := fun e2 e9 e12 e14 e15 => by
      refine rstore R6 (by omega) (fun hf => by rw [he6] at hf; cases hf) fun _ h7 R7 U7 => ?_
      rw [show Int.toNat 1 = 1 from rfl, stB_one hl6, show (BitVec.setWidth 32 b).setWidth 8 = b by simp, hback] at R7
      have Sw7 : Sees encW h7 aw ws := Sw6.upd U7 fun A hA hm => by
        have := hfr A (.inl hA)
        simp at hm; omega
      have gA7 := (U7.get _ (lt_of_get gA6) (by simp; omega)).trans gA6
      have rA7 := rdn_all (n := 4) gA7 rfl
      have hs7 := bsame (a := k) (cw := cw) R7 Sw7 (by omega) (.slice ai ws.length ci) (.slice ao ws.length co) rfl rfl
      rw [hself] at hs7
      simp (maxSteps := 1000000) (disch := first | assumption | ((try simp only [push_next, put_next, adv_next, List.length_cons, List.length_nil, List.length_map, List.length_set]); omega) | simp) [e9, e12, rA7]
      refine GC_intro hs7 fun v h8 ⟨hv, K8⟩ => ?_
      subst hv
      have rA8 := rdn_all (n := 4) ((K8.get _ (lt_of_get gA7)).trans gA7) rfl
      simp (maxSteps := 1000000) (disch := first | assumption | ((try simp only [push_next, put_next, adv_next, List.length_cons, List.length_nil, List.length_map, List.length_set]); omega) | simp) [e12, rA8]
      refine GC_intro (bsame_nil _ _ _ rfl rfl rfl) fun v h9 ⟨hv, K9⟩ => ?_
      subst hv
      simp (maxSteps := 1000000) (disch := first | assumption | ((try simp only [push_next, put_next, adv_next, List.length_cons, List.length_nil, List.length_map, List.length_set]); omega) | simp)
      refine bk21.mono fun u g1 hu => ?_
      obtain ⟨rfl, _⟩ := hu
      simp (maxSteps := 1000000) (disch := first | assumption | ((try simp only [push_next, put_next, adv_next, List.length_cons, List.length_nil, List.length_map, List.length_set]); omega) | simp)
    cases t with
    | true =>
      simp (maxSteps := 1000000) (disch := first | assumption | ((try simp only [push_next, put_next, adv_next, List.length_cons, List.length_nil, List.length_map, List.length_set]); omega) | simp) [e17, e9, e14, e15, -g0_pianolalaw21_BlockSame]
      exact back _ (by simp [e9]) (by simp [e12]) (by simp [e14]) (by simp [e15])
    | false =>
      simp (maxSteps := 1000000) (disch := first | assumption | ((try simp only [push_next, put_next, adv_next, List.length_cons, List.length_nil, List.length_map, List.length_set]); omega) | simp) [e17, e9, e14, e15, -g0_pianolalaw21_BlockSame]
      exact back _ (by simp [e9]) (by simp [e12]) (by simp [e14]) (by simp [e15])
  by_cases p1 : k ≤ c
  · by_cases p2 : c < k + BitVec.ofInt 32 (4 * (ws.length : Int))
    · by_cases p3 : bit = 0#8
      · simp (maxSteps := 1000000) (disch := first | assumption | ((try simp only [push_next, put_next, adv_next, List.length_cons, List.length_nil, List.length_map, List.length_set]); omega) | simp) [gA5, p1, p2, p3, -g1_pianolalaw21_BlockSame]
        exact rest _ false (by simp [p3]) (by simp) (by simp) (by simp) (by simp) (by simp)
      · simp (maxSteps := 1000000) (disch := first | assumption | ((try simp only [push_next, put_next, adv_next, List.length_cons, List.length_nil, List.length_map, List.length_set]); omega) | simp) [gA5, p1, p2, p3, -g1_pianolalaw21_BlockSame]
        exact rest _ true (decide_eq_true ⟨p1, p2, p3⟩).symm (by simp) (by simp) (by simp) (by simp) (by simp [p3])
    · simp (maxSteps := 1000000) (disch := first | assumption | ((try simp only [push_next, put_next, adv_next, List.length_cons, List.length_nil, List.length_map, List.length_set]); omega) | simp) [gA5, p1, p2, -g1_pianolalaw21_BlockSame]
      exact rest _ false (by simp [p2]) (by simp) (by simp) (by simp) (by simp) (by simp)
  · simp (maxSteps := 1000000) (disch := first | assumption | ((try simp only [push_next, put_next, adv_next, List.length_cons, List.length_nil, List.length_map, List.length_set]); omega) | simp) [gA5, p1, -g1_pianolalaw21_BlockSame]
    exact rest _ false (by simp [p1]) (by simp) (by simp) (by simp) (by simp) (by simp)
end
end Go.Proofs.YtmgoleiafiffoaaGreat.Cd
