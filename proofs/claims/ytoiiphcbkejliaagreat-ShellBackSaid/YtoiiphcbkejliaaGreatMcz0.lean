/- Texts of one kind, one behind the other. -/
import Derived.Test.YtoiiphcbkejliaaGreatMc0
/- Rows of words in memory, arrays of them. -/
set_option linter.unusedSimpArgs false
set_option linter.unusedVariables false
set_option maxRecDepth 100000
namespace Go.Dx
open Go
def encOp : Enc IOp := ⟨5, fun x => [.int .i64 x.k, .int .i64 x.d, .int .i64 x.a, .int .i64 x.b, u32 x.imm], fun _ => rfl, fun _ => rfl, by decide⟩
@[simp] theorem encOp_sz : encOp.sz = 5 := rfl
def encW : Enc (BitVec 32) := ⟨1, fun x => [u32 x], fun _ => rfl, fun _ => rfl, by decide⟩
@[simp] theorem encW_sz : encW.sz = 1 := rfl
def encZ : Enc Int := ⟨1, fun x => [.int .i64 x], fun _ => rfl, fun _ => rfl, by decide⟩
@[simp] theorem encZ_sz : encZ.sz = 1 := rfl
section
variable {e : Env} {h : Hp} {x y z : X}
@[simp] theorem opV_iaa {n sz : Nat} : opV e h (.iaa n sz x y) = (at? (x.ev e)).bind fun p => (indexA n (y.ev e)).map fun k => (ptr p.1 (p.2 + k * sz), h) := rfl
@[simp] theorem indexA_int {n : Nat} {k : IntKind} {i : Int} (h0 : 0 ≤ i) (h1 : i < n) : indexA n (.int k i) = some i.toNat := by
  simp [indexA, h0, h1]
def ixsV (i : Value) : Value → Option Value
  | .string s => (indexA s.size i).bind fun k => (s.data.toList[k]?).map fun b => .int .u8 b.toNat
  | _ => none
@[simp] theorem opV_ixs : opV e h (.ixs x y) = (ixsV (y.ev e) (x.ev e)).map fun v => (v, h) := by
  simp only [opV, ixsV]
  generalize x.ev e = v
  cases v <;> first | rfl | skip
  simp only []
  cases indexA _ (y.ev e) with
  | none => rfl
  | some k => simp only [Option.bind_some]; cases (_ : List UInt8)[k]? <;> rfl
end
theorem over_set {l : List Value} {i : Nat} {v : Value} (hi : i < l.length) : over l i [v] = l.set i v := by
  simp only [over, List.length_singleton]
  rw [List.set_eq_take_append_cons_drop, if_pos hi]
  simp
section
variable {T : Nat → Option Fn} {Q : Ex → Env → Hp → Prop} {k : List Fr} {e : Env} {h : Hp} {d : Option Nat} {l : List O}
end
theorem Sees.upd {α : Type} {E : Enc α} {g h : Hp} {a : Option Addr} {xs : List α} {fp fp' : List Nat} (x : Sees E g a xs) (f : Upd g h fp fp') (ha : ∀ A, a = some A → A.block ∉ fp) : Sees E h a xs := ⟨x.nil, fun A hA => by
  have hr := x.get A hA
  exact rdn_kp hr (f.get _ (lt_of_rdn hr) (ha A hA)), x.sp⟩
theorem Kp.upd {g h : Hp} (k : Kp g h) (fp : List Nat) : Upd g h fp fp := ⟨k.le, fun b hb _ => k.get b hb, fun b hb => .inl hb⟩
theorem Upd.one {g h h' : Hp} {c : Nat} (hu : Upd g h [c] [c]) (k : Kp h h') : Upd g h' [c] [c] := hu.trans (k.upd _)
theorem Upd.put1 {g h : Hp} {c : Nat} {o : Option Ob} (hu : Upd g h [c] [c]) : Upd g (h.put c o) [c] [c] := ⟨hu.le, fun b hb hn => by
  rw [get_put_ne (by simpa using hn)]; exact hu.get b hb hn, fun b hb => .inl hb⟩
/-- A thing of one cell in a row that is seen. -/
theorem Sees.cell {α : Type} {E : Enc α} {f : α → Value} (hE : ∀ x, E.enc x = [f x]) (hz : E.sz = 1) {h : Hp} {a : Option Addr} {us vs : List α} {x : α} (hs : Sees E h a (us ++ x :: vs)) :
    ∃ A ro C, a = some A ∧ h.get A.block = some (.cells ro C) ∧ C[A.off + us.length]? = some (f x) := by
  obtain ⟨A, rfl, hr⟩ := Sees.mid hs
  obtain ⟨ro, C, hg, hC⟩ := rdn_cells hr
  have h0 := hC 0 (by omega)
  rw [hE, hz] at h0
  exact ⟨A, ro, C, rfl, hg, by simpa using h0⟩
theorem rdn_all {h : Hp} {b n : Nat} {ro : Bool} {C : List Value} (hg : h.get b = some (.cells ro C)) (hn : C.length = n) : h.rdn b 0 n = some C := by
  subst hn
  simp [Hp.rdn, hg]
theorem wr_all {h : Hp} {b : Nat} {C vs : List Value} (hg : h.get b = some (.cells false C)) (hn : C.length = vs.length) (h1 : vs.all one = true) : h.wr b 0 vs = some (h.put b (some (.cells false vs))) := by
  rw [wr_ok hg (by omega) h1]
  simp [over, ← hn]
/-- What a law makes of a row of words: cells from 1 on. -/
def rgsj (l : List (BitVec 32)) (j : Nat) : Regs := (List.range 40).map fun i => if 1 ≤ i ∧ i < j then l.getD i 0#32 else 0#32
def rgs (l : List (BitVec 32)) : Regs := rgsj l 40
@[simp] theorem rgsj_length (l : List (BitVec 32)) (j : Nat) : (rgsj l j).length = 40 := by simp [rgsj]
@[simp] theorem rgs_length (l : List (BitVec 32)) : (rgs l).length = 40 := rgsj_length _ _
@[simp] theorem opV_sla {e : Env} {h : Hp} {n sz : Nat} {x : X} {lo hi mx : Option X} : opV e h (.sla n sz x lo hi mx) = (at? (x.ev e)).bind fun p => (bounds n n (lo.map (·.ev e)) (hi.map (·.ev e)) (mx.map (·.ev e))).map fun b =>
      (.slice (some (if b.2.2 = b.1 then ⟨p.1, p.2, none⟩ else ⟨p.1, p.2 + b.1 * sz, none⟩)) (b.2.1 - b.1) (b.2.2 - b.1), h) := rfl
@[simp] theorem bounds_none {n c : Nat} : bounds n c none none none = some (0, n, c) := by simp [bounds]
end Go.Dx

/- New blocks that are filled at once; numbers brought within bounds. -/
set_option linter.unusedSimpArgs false
set_option linter.unusedVariables false
namespace Go.Dx
open Go
@[simp] theorem push_put_self {h : Hp} {o p : Ob} : (h.push o).put h.next (some p) = h.push p := Hp.ext' rfl fun b => by
  by_cases hb : b = h.next
  · subst hb
    rw [get_put_self (by simp), get_push_self]
  · rw [get_put_ne hb, get_push_ne hb, get_push_ne hb]
@[simp] theorem wr_new {h : Hp} {C vs : List Value} (hn : C.length = vs.length) (h1 : vs.all one = true) : (h.push (.cells false C)).wr h.next 0 vs = some (h.push (.cells false vs)) := by
  rw [wr_all get_push_self hn h1, push_put_self]
def wi (n lo hi : Int) : Int := if lo ≤ n ∧ n ≤ hi then n else lo + n % (hi - lo + 1)
theorem wi_bound {n lo hi : Int} (h : lo ≤ hi) : lo ≤ wi n lo hi ∧ wi n lo hi ≤ hi := by
  unfold wi
  split
  · assumption
  · have h1 := Int.emod_nonneg n (show hi - lo + 1 ≠ 0 by omega)
    have h2 := Int.emod_lt_of_pos n (show 0 < hi - lo + 1 by omega)
    omega
theorem tmod_emod {n m : Int} (hm : 0 < m) : n % m = if n.tmod m < 0 then n.tmod m + m else n.tmod m := by
  have h1 := Int.tmod_eq_emod (a := n) (b := m)
  have h2 := Int.emod_nonneg n (show m ≠ 0 by omega)
  have h3 := Int.emod_lt_of_pos n hm
  rw [h1]
  split
  · rw [if_neg (by omega)]; omega
  · have : (m.natAbs : Int) = m := by omega
    by_cases h0 : n % m - m.natAbs < 0
    · rw [if_pos h0]; omega
    · rw [if_neg h0]; omega
end Go.Dx

/- A part of a slice lies in the same block. -/
set_option linter.unusedSimpArgs false
set_option linter.unusedVariables false
namespace Go.Dx
open Go
end Go.Dx

/- Memory of bytes: what is loaded, stored, moved, and which pages were written. -/
set_option linter.unusedSimpArgs false
set_option linter.unusedVariables false
namespace Go.Dx
open Go
abbrev By := List (BitVec 8)
def encB : Enc (BitVec 8) := ⟨1, fun x => [u8 x], fun _ => rfl, fun _ => rfl, by decide⟩
@[simp] theorem encB_sz : encB.sz = 1 := rfl
theorem encB_all (B : By) : encB.all B = B.map u8 := by
  induction B with
  | nil => rfl
  | cons x B ih => rw [Enc.all_cons, ih]; rfl
/-- A word's bytes, the highest first. -/
def wdB (v : BitVec 32) (n : Nat) : By := (List.range n).map fun i => (v >>> (8 * (n - 1 - i))).setWidth 8
@[simp] theorem wdB_length (v : BitVec 32) (n : Nat) : (wdB v n).length = n := by simp [wdB]
/-- Pages that were written. -/
def tch (M W : List Bool) (a n : Nat) : List Bool := if n = 0 then W else
  (List.range W.length).map fun i => W.getD i false || (decide (a / 1024 ≤ i ∧ i ≤ (a + n - 1) / 1024) && M.getD i false)
@[simp] theorem tch_length (M W : List Bool) (a n : Nat) : (tch M W a n).length = W.length := by
  unfold tch; split <;> simp
end Go.Dx
namespace Go.Dx
open Go
theorem flat_one {n : Nat} {z : Value} : (List.replicate n [z]).flatten = List.replicate n z := by
  induction n with
  | zero => rfl
  | succ n ih => rw [List.replicate_succ, List.flatten_cons, ih, List.replicate_succ]; rfl
@[simp] theorem makeS_one {id y : Nat} {z : Value} {k j : IntKind} {n : Int} (h0 : 0 ≤ n) (h1 : y * n ≤ 2 ^ 47) (h2 : n < 2 ^ 62) : makeS id [z] y (.int k n) (.int j n) = some (.slice (some ⟨id, 0, none⟩) n.toNat n.toNat, .cells false (List.replicate n.toNat z)) := by
  unfold makeS
  simp only []
  rw [if_pos ⟨h0, Int.le_refl _, h1, h2⟩, flat_one]
section
variable {sz b o n : Nat} {k j : IntKind} {lo hi : Int}
end
end Go.Dx
namespace Go.Dx
open Go
theorem sees_b {h : Hp} {B : By} {x : Nat} {ro : Bool} (hg : h.get x = some (.cells ro (B.map u8))) : Sees encB h (some ⟨x, 0, none⟩) B := ⟨fun hA => (by cases hA), fun A hA => by
  cases hA
  simp [Hp.rdn, hg]
  rw [encB_all, List.take_of_length_le (by simp)], fun A hA => (by cases hA; exact .inl rfl)⟩
end Go.Dx
namespace Go.Dx
open Go
def tpg (M W : List Bool) (lo p : Nat) : List Bool := (List.range W.length).map fun i => W.getD i false || (decide (lo ≤ i ∧ i < p) && M.getD i false)
@[simp] theorem tpg_length (M W : List Bool) (lo p : Nat) : (tpg M W lo p).length = W.length := by simp [tpg]
end Go.Dx
namespace Go.Dx
open Go
end Go.Dx

/- Strings of bytes; bytes that are copied into a row that is owned. -/
set_option linter.unusedSimpArgs false
set_option linter.unusedVariables false
namespace Go.Dx
open Go
def b2sV (h : Hp) : Value → Option Value
  | .slice none _ _ => some (.string .empty)
  | .slice (some a) n _ => ((if n = 0 then some [] else h.rdn a.block a.off n).bind fun c => c.mapM fun | .int .u8 n => some (UInt8.ofNat n.toNat) | _ => none).map fun l => .string ⟨l.toArray⟩
  | _ => none
@[simp] theorem opV_b2s {e : Env} {h : Hp} {x : X} : opV e h (.b2s x) = (b2sV h (x.ev e)).map fun v => (v, h) := by
  simp only [opV, b2sV]
  generalize x.ev e = v
  cases v with
  | slice a n c =>
    cases a with
    | none => rfl
    | some a => simp only [Option.map_map]; rfl
  | _ => rfl
/-- A string of bytes. -/
def strB (B : By) : Value := .string ⟨(B.map fun c => UInt8.ofNat c.toNat).toArray⟩
theorem b2sV_sees {h : Hp} {a : Option Addr} {c : Nat} {B : By} (S : Sees encB h a B) : b2sV h (.slice a B.length c) = some (strB B) := by
  have hm : ∀ B : By, (B.map u8).mapM (fun | .int .u8 n => some (UInt8.ofNat n.toNat) | _ => none : Value → Option UInt8) = some (B.map fun c => UInt8.ofNat c.toNat) := by
    intro B
    induction B with
    | nil => rfl
    | cons x B ih => 
      rw [List.map_cons, List.mapM_cons, ih]
      simp [u8]
  cases a with
  | none =>
    have := S.nil rfl
    subst this
    rfl
  | some A =>
    have h1 := S.get A rfl
    simp only [encB_sz, Nat.mul_one, encB_all] at h1
    unfold b2sV strB
    simp only []
    by_cases h0 : B.length = 0
    · have : B = [] := List.length_eq_zero_iff.1 h0
      subst this
      rfl
    · rw [if_neg h0, h1, Option.bind_some, hm]
      rfl
@[simp] theorem eql_self {s : ByteArray} : binV .eql (.string s) (.string s) = some (.bool true) := by simp [binV, binS]
@[simp] theorem neq_self {s : ByteArray} : binV .neq (.string s) (.string s) = some (.bool false) := by simp [binV, binS]
@[simp] theorem eql_strB {B : By} : binV .eql (strB B) (strB B) = some (.bool true) := eql_self
@[simp] theorem neq_strB {B : By} : binV .neq (strB B) (strB B) = some (.bool false) := neq_self
end Go.Dx

/- Functions that are given as what they are worth. -/
set_option linter.unusedSimpArgs false
set_option linter.unusedVariables false
namespace Go.Dx
open Go
theorem WC_spec {T : Nat → Option Fn} {f : Nat} {s : Sp} {args : List Value} {h : Hp} {q : Value → Hp → Prop} (hf : T f = some (.spec s)) : WC T f args h q ↔ ∃ r, s args h = some r ∧ q r.1 r.2 := by
  constructor
  · rintro ⟨n, v, h', h1, h2⟩
    cases n with
    | zero => simp [callN] at h1
    | succ n =>
      simp only [callN, hf] at h1
      exact ⟨_, h1, h2⟩
  · rintro ⟨⟨v, h'⟩, h1, h2⟩
    exact ⟨1, v, h', by simp only [callN, hf, h1], h2⟩
@[simp] theorem cells_chan {c : Option Nat} : (Value.chan c).cells = #[.chan c] := by simp [Value.cells]
/-- How many a channel holds. -/
def lenC (h : Hp) : Value → Option Value
  | .chan (some r) => (match h.get r with | some (.chan _ buf) => some (goInt buf.length) | _ => none)
  | _ => none
@[simp] theorem opV_len3 {e : Env} {h : Hp} {x : X} : opV e h (.len 3 x) = (lenC h (x.ev e)).map fun v => (v, h) := by
  simp only [opV, lenC]
  generalize x.ev e = v
  cases v with
  | chan r =>
    cases r with
    | none => rfl
    | some r =>
      simp only []
      cases h.get r with
      | none => rfl
      | some o => cases o <;> rfl
  | _ => rfl
end Go.Dx

/- Instructions: words as instructions. -/
set_option linter.unusedSimpArgs false
set_option linter.unusedVariables false
namespace Go.Dx
open Go
/-- An instruction. -/
structure Ins where
  k : Int
  s : Int
  t : Int
  d : Int
  sh : Int
  imm : BitVec 32
deriving DecidableEq
def encIns : Enc Ins := ⟨6, fun x => [.int .i64 x.k, .int .i64 x.s, .int .i64 x.t, .int .i64 x.d, .int .i64 x.sh, u32 x.imm], fun _ => rfl, fun _ => rfl, by decide⟩
@[simp] theorem encIns_sz : encIns.sz = 6 := rfl
end Go.Dx
