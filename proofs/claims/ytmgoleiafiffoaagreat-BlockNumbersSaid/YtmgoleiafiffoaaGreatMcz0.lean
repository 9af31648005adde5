/- Texts of one kind, one behind the other. -/
import Derived.Test.YtmgoleiafiffoaaGreatMc0
/- Rows of words in memory, arrays of them. -/
set_option linter.unusedSimpArgs false
set_option linter.unusedVariables false
set_option maxRecDepth 100000
namespace Go.Dx
open Go
def encOp : Enc IOp := ⟨5, fun x => [.int .i64 x.k, .int .i64 x.d, .int .i64 x.a, .int .i64 x.b, u32 x.imm], fun _ => rfl, fun _ => rfl, by decide⟩
@[simp] theorem encOp_sz : encOp.sz = 5 := rfl
def encW : Enc (BitVec 32) := ⟨1, fun x => [u32 x], fun _ => rfl, fun _ => rfl, by decide⟩
@[simp] theorem encW_sz : encW.sz = 1 := rfl
def encZ : Enc Int := ⟨1, fun x => [.int .i64 x], fun _ => rfl, fun _ => rfl, by decide⟩
@[simp] theorem encZ_sz : encZ.sz = 1 := rfl
theorem encW_all (R : Regs) : encW.all R = R.map u32 := by
  induction R with
  | nil => rfl
  | cons x R ih => rw [Enc.all_cons, ih]; rfl
theorem encZ_all (l : List Int) : encZ.all l = l.map (Value.int .i64) := by
  induction l with
  | nil => rfl
  | cons x l ih => rw [Enc.all_cons, ih]; rfl
section
variable {e : Env} {h : Hp} {x y z : X}
@[simp] theorem opV_iaa {n sz : Nat} : opV e h (.iaa n sz x y) = (at? (x.ev e)).bind fun p => (indexA n (y.ev e)).map fun k => (ptr p.1 (p.2 + k * sz), h) := rfl
@[simp] theorem indexA_int {n : Nat} {k : IntKind} {i : Int} (h0 : 0 ≤ i) (h1 : i < n) : indexA n (.int k i) = some i.toNat := by
  simp [indexA, h0, h1]
def ixsV (i : Value) : Value → Option Value
  | .string s => (indexA s.size i).bind fun k => (s.data.toList[k]?).map fun b => .int .u8 b.toNat
  | _ => none
@[simp] theorem opV_ixs : opV e h (.ixs x y) = (ixsV (y.ev e) (x.ev e)).map fun v => (v, h) := by
  simp only [opV, ixsV]
  generalize x.ev e = v
  cases v <;> first | rfl | skip
  simp only []
  cases indexA _ (y.ev e) with
  | none => rfl
  | some k => simp only [Option.bind_some]; cases (_ : List UInt8)[k]? <;> rfl
end
theorem rg_at {R : Regs} {i : Int} (h0 : 0 ≤ i) (h1 : i < R.length) : R[i.toNat]? = some (rg R i) := by
  unfold rg
  rw [List.getD_eq_getElem?_getD, List.getElem?_eq_getElem (by omega)]
  rfl
theorem rg_get {R : Regs} {i : Int} (h0 : 0 ≤ i) (h1 : i < R.length) (hh : i.toNat < R.length) : R[i.toNat]'hh = rg R i := by
  have := rg_at h0 h1
  rw [List.getElem?_eq_getElem hh] at this
  simpa using this
theorem over_set {l : List Value} {i : Nat} {v : Value} (hi : i < l.length) : over l i [v] = l.set i v := by
  simp only [over, List.length_singleton]
  rw [List.set_eq_take_append_cons_drop, if_pos hi]
  simp
theorem len8_all : ∀ n, n < 256 → (#[0, 1, 2, 2, 3, 3, 3, 3, 4, 4, 4, 4, 4, 4, 4, 4, 5, 5, 5, 5, 5, 5, 5, 5, 5, 5, 5, 5, 5, 5, 5, 5, 6, 6, 6, 6, 6, 6, 6, 6, 6, 6, 6, 6, 6, 6, 6, 6, 6, 6, 6, 6, 6, 6, 6, 6, 6, 6, 6, 6, 6, 6, 6, 6, 7, 7, 7, 7, 7, 7, 7, 7, 7, 7, 7, 7, 7, 7, 7, 7, 7, 7, 7, 7, 7, 7, 7, 7, 7, 7, 7, 7, 7, 7, 7, 7, 7, 7, 7, 7, 7, 7, 7, 7, 7, 7, 7, 7, 7, 7, 7, 7, 7, 7, 7, 7, 7, 7, 7, 7, 7, 7, 7, 7, 7, 7, 7, 7, 8, 8, 8, 8, 8, 8, 8, 8, 8, 8, 8, 8, 8, 8, 8, 8, 8, 8, 8, 8, 8, 8, 8, 8, 8, 8, 8, 8, 8, 8, 8, 8, 8, 8, 8, 8, 8, 8, 8, 8, 8, 8, 8, 8, 8, 8, 8, 8, 8, 8, 8, 8, 8, 8, 8, 8, 8, 8, 8, 8, 8, 8, 8, 8, 8, 8, 8, 8, 8, 8, 8, 8, 8, 8, 8, 8, 8, 8, 8, 8, 8, 8, 8, 8, 8, 8, 8, 8, 8, 8, 8, 8, 8, 8, 8, 8, 8, 8, 8, 8, 8, 8, 8, 8, 8, 8, 8, 8, 8, 8, 8, 8, 8, 8, 8, 8, 8, 8, 8, 8, 8, 8, 8, 8, 8, 8, 8, 8] : Array UInt8).toList[n]? = some (UInt8.ofNat (lenN n)) := by decide +kernel
theorem len8 (v : BitVec 8) : ixsV (u8 v) (.string ⟨#[0, 1, 2, 2, 3, 3, 3, 3, 4, 4, 4, 4, 4, 4, 4, 4, 5, 5, 5, 5, 5, 5, 5, 5, 5, 5, 5, 5, 5, 5, 5, 5, 6, 6, 6, 6, 6, 6, 6, 6, 6, 6, 6, 6, 6, 6, 6, 6, 6, 6, 6, 6, 6, 6, 6, 6, 6, 6, 6, 6, 6, 6, 6, 6, 7, 7, 7, 7, 7, 7, 7, 7, 7, 7, 7, 7, 7, 7, 7, 7, 7, 7, 7, 7, 7, 7, 7, 7, 7, 7, 7, 7, 7, 7, 7, 7, 7, 7, 7, 7, 7, 7, 7, 7, 7, 7, 7, 7, 7, 7, 7, 7, 7, 7, 7, 7, 7, 7, 7, 7, 7, 7, 7, 7, 7, 7, 7, 7, 8, 8, 8, 8, 8, 8, 8, 8, 8, 8, 8, 8, 8, 8, 8, 8, 8, 8, 8, 8, 8, 8, 8, 8, 8, 8, 8, 8, 8, 8, 8, 8, 8, 8, 8, 8, 8, 8, 8, 8, 8, 8, 8, 8, 8, 8, 8, 8, 8, 8, 8, 8, 8, 8, 8, 8, 8, 8, 8, 8, 8, 8, 8, 8, 8, 8, 8, 8, 8, 8, 8, 8, 8, 8, 8, 8, 8, 8, 8, 8, 8, 8, 8, 8, 8, 8, 8, 8, 8, 8, 8, 8, 8, 8, 8, 8, 8, 8, 8, 8, 8, 8, 8, 8, 8, 8, 8, 8, 8, 8, 8, 8, 8, 8, 8, 8, 8, 8, 8, 8, 8, 8, 8, 8, 8, 8, 8, 8]⟩) = some (.int .u8 (lenN v.toNat)) := by
  have hv := v.isLt
  have h := len8_all v.toNat (by omega)
  have hl : lenN v.toNat < 256 := by
    have := lenN_le (n := v.toNat) (k := 8) (by omega)
    omega
  unfold ixsV u8
  simp only
  rw [indexA_int (by omega) (by show (v.toNat : Int) < 256; omega)]
  simp only [Option.bind_some, Int.toNat_natCast, h, Option.map_some]
  congr 2
  have e : (UInt8.ofNat (lenN v.toNat)).toNat = lenN v.toNat := by
    rw [UInt8.toNat_ofNat']
    exact Nat.mod_eq_of_lt hl
  rw [e]
section
variable {T : Nat → Option Fn} {Q : Ex → Env → Hp → Prop} {k : List Fr} {e : Env} {h : Hp} {d : Option Nat} {l : List O}
/-- Guards: by what is asked itself, never by its contrary. -/
theorem GG_t {t : Bool} {op : Op} : GG T Q (.bool t) true d op l k e h ↔ if t = true then GO T Q (⟨d, none, op⟩ :: l) k e h else GO T Q l k (put e d undef) h := by
  rw [GG_bool]
theorem GG_f {t : Bool} {op : Op} : GG T Q (.bool t) false d op l k e h ↔ if t = true then GO T Q l k (put e d undef) h else GO T Q (⟨d, none, op⟩ :: l) k e h := by
  rw [GG_bool]; cases t <;> simp
theorem GGI_t {base i : Nat} {t : Bool} {op : Op} {l : List It} : GGI T Q true base i d op l k e h (.bool t) ↔ if t = true then GI T Q base (.op i ⟨d, none, op⟩ :: l) k e h else GI T Q base l k (put e d undef) h := by
  rw [GGI_bool]
theorem GGI_f {base i : Nat} {t : Bool} {op : Op} {l : List It} : GGI T Q false base i d op l k e h (.bool t) ↔ if t = true then GI T Q base l k (put e d undef) h else GI T Q base (.op i ⟨d, none, op⟩ :: l) k e h := by
  rw [GGI_bool]; cases t <;> simp
theorem GB_b {t : Bool} {a b : C} : GB T Q (.bool t) a b k e h ↔ if t = true then G T Q a k e h else G T Q b k e h := Iff.rfl
/-- What is not asked: turned. -/
theorem GB_n {t : Bool} {a b : C} : GB T Q (.bool !t) a b k e h ↔ if t = true then G T Q b k e h else G T Q a k e h := by
  rw [GB_bool]; cases t <;> simp
theorem GG_tn {t : Bool} {op : Op} : GG T Q (.bool !t) true d op l k e h ↔ if t = true then GO T Q l k (put e d undef) h else GO T Q (⟨d, none, op⟩ :: l) k e h := by
  rw [GG_bool]; cases t <;> simp
theorem GG_fn {t : Bool} {op : Op} : GG T Q (.bool !t) false d op l k e h ↔ if t = true then GO T Q (⟨d, none, op⟩ :: l) k e h else GO T Q l k (put e d undef) h := by
  rw [GG_bool]; cases t <;> simp
end
/-- A call has one outcome. -/
theorem WC_det {T : Nat → Option Fn} {f : Nat} {args : List Value} {h : Hp} {q r : Value → Hp → Prop} (h1 : WC T f args h q) (h2 : WC T f args h r) : WC T f args h fun v h' => q v h' ∧ r v h' := by
  obtain ⟨n, v, h', e1, hq⟩ := h1
  obtain ⟨m, u, g, e2, hr⟩ := h2
  have f1 := callN_mono (T := T) (Nat.le_max_left n m) _ _ _ _ e1
  have f2 := callN_mono (T := T) (Nat.le_max_right n m) _ _ _ _ e2
  rw [f1] at f2
  cases f2
  exact ⟨n, v, h', e1, hq, hr⟩
theorem WC_iff {T : Nat → Option Fn} {f : Nat} {args : List Value} {h h' : Hp} {v : Value} (h1 : WC T f args h fun u g => u = v ∧ g = h') (q : Value → Hp → Prop) : WC T f args h q ↔ q v h' := by
  constructor
  · intro h2
    obtain ⟨n, u, g, _, ⟨rfl, rfl⟩, hq⟩ := WC_det h1 h2
    exact hq
  · intro hq
    exact h1.mono fun u g ⟨hu, hg⟩ => by rw [hu, hg]; exact hq
/-- Where the first one is. -/
def fidx {α : Type} (p : α → Bool) : List α → Int → Int
  | [], _ => -1
  | x :: xs, i => if p x = true then i else fidx p xs (i + 1)
theorem fidx_any {α : Type} (p : α → Bool) (xs : List α) (i : Int) (hi : 0 ≤ i) : decide (0 ≤ fidx p xs i) = xs.any p := by
  induction xs generalizing i with
  | nil => simp [fidx]
  | cons x xs ih =>
    simp only [fidx, List.any_cons]
    by_cases h : p x = true
    · simp [h, hi]
    · simp [h, ih (i + 1) (by omega)]
theorem fidx_skip {α : Type} (p : α → Bool) (us vs : List α) (i : Int) (h : ∀ x ∈ us, p x = false) : fidx p (us ++ vs) i = fidx p vs (i + us.length) := by
  induction us generalizing i with
  | nil => simp
  | cons x us ih =>
    have hx := h x (by simp)
    simp only [List.cons_append, fidx, hx, Bool.false_eq_true, if_false]
    rw [ih _ fun y hy => h y (by simp [hy])]
    congr 1
    simp only [List.length_cons]
    omega
theorem Sees.upd {α : Type} {E : Enc α} {g h : Hp} {a : Option Addr} {xs : List α} {fp fp' : List Nat} (x : Sees E g a xs) (f : Upd g h fp fp') (ha : ∀ A, a = some A → A.block ∉ fp) : Sees E h a xs := ⟨x.nil, fun A hA => by
  have hr := x.get A hA
  exact rdn_kp hr (f.get _ (lt_of_rdn hr) (ha A hA)), x.sp⟩
theorem Kp.upd {g h : Hp} (k : Kp g h) (fp : List Nat) : Upd g h fp fp := ⟨k.le, fun b hb _ => k.get b hb, fun b hb => .inl hb⟩
theorem Upd.one {g h h' : Hp} {c : Nat} (hu : Upd g h [c] [c]) (k : Kp h h') : Upd g h' [c] [c] := hu.trans (k.upd _)
theorem Upd.put1 {g h : Hp} {c : Nat} {o : Option Ob} (hu : Upd g h [c] [c]) : Upd g (h.put c o) [c] [c] := ⟨hu.le, fun b hb hn => by
  rw [get_put_ne (by simpa using hn)]; exact hu.get b hb hn, fun b hb => .inl hb⟩
/-- A thing of one cell in a row that is seen. -/
theorem Sees.cell {α : Type} {E : Enc α} {f : α → Value} (hE : ∀ x, E.enc x = [f x]) (hz : E.sz = 1) {h : Hp} {a : Option Addr} {us vs : List α} {x : α} (hs : Sees E h a (us ++ x :: vs)) :
    ∃ A ro C, a = some A ∧ h.get A.block = some (.cells ro C) ∧ C[A.off + us.length]? = some (f x) := by
  obtain ⟨A, rfl, hr⟩ := Sees.mid hs
  obtain ⟨ro, C, hg, hC⟩ := rdn_cells hr
  have h0 := hC 0 (by omega)
  rw [hE, hz] at h0
  exact ⟨A, ro, C, rfl, hg, by simpa using h0⟩
theorem rdn_all {h : Hp} {b n : Nat} {ro : Bool} {C : List Value} (hg : h.get b = some (.cells ro C)) (hn : C.length = n) : h.rdn b 0 n = some C := by
  subst hn
  simp [Hp.rdn, hg]
theorem wr_all {h : Hp} {b : Nat} {C vs : List Value} (hg : h.get b = some (.cells false C)) (hn : C.length = vs.length) (h1 : vs.all one = true) : h.wr b 0 vs = some (h.put b (some (.cells false vs))) := by
  rw [wr_ok hg (by omega) h1]
  simp [over, ← hn]
theorem all_u32 (R : Regs) : (R.map u32).all one = true := by
  rw [← encW_all]; exact encW.all_one R
/-- What a law makes of a row of words: cells from 1 on. -/
def rgsj (l : List (BitVec 32)) (j : Nat) : Regs := (List.range 40).map fun i => if 1 ≤ i ∧ i < j then l.getD i 0#32 else 0#32
def rgs (l : List (BitVec 32)) : Regs := rgsj l 40
@[simp] theorem rgsj_length (l : List (BitVec 32)) (j : Nat) : (rgsj l j).length = 40 := by simp [rgsj]
@[simp] theorem rgs_length (l : List (BitVec 32)) : (rgs l).length = 40 := rgsj_length _ _
theorem rgsj_get (l : List (BitVec 32)) (j i : Nat) (hi : i < 40) : (rgsj l j)[i]? = some (if 1 ≤ i ∧ i < j then l.getD i 0#32 else 0#32) := by
  simp [rgsj, hi]
theorem rgsj_one (l : List (BitVec 32)) : rgsj l 1 = List.replicate 40 0#32 := by
  apply List.ext_getElem?
  intro i
  by_cases hi : i < 40
  · rw [rgsj_get l 1 i hi, List.getElem?_replicate, if_pos hi, if_neg (by omega)]
  · rw [List.getElem?_eq_none (by simp; omega), List.getElem?_eq_none (by simp; omega)]
theorem rgsj_set {l : List (BitVec 32)} {j : Nat} {x : BitVec 32} (h1 : 1 ≤ j) (h2 : j < 40) (hx : l[j]? = some x) : (rgsj l j).set j x = rgsj l (j + 1) := by
  apply List.ext_getElem?
  intro i
  by_cases hi : i < 40
  · rw [List.getElem?_set, rgsj_get l j i hi, rgsj_get l (j + 1) i hi]
    by_cases hij : j = i
    · subst hij
      rw [if_pos rfl, if_pos (by simp; omega), if_pos (by omega), List.getD_eq_getElem?_getD, hx]
      rfl
    · rw [if_neg hij]
      by_cases h3 : 1 ≤ i ∧ i < j
      · rw [if_pos h3, if_pos (by omega)]
      · rw [if_neg h3, if_neg (by omega)]
  · rw [List.getElem?_eq_none (by simp; omega), List.getElem?_eq_none (by simp; omega)]
@[simp] theorem opV_sla {e : Env} {h : Hp} {n sz : Nat} {x : X} {lo hi mx : Option X} : opV e h (.sla n sz x lo hi mx) = (at? (x.ev e)).bind fun p => (bounds n n (lo.map (·.ev e)) (hi.map (·.ev e)) (mx.map (·.ev e))).map fun b =>
      (.slice (some (if b.2.2 = b.1 then ⟨p.1, p.2, none⟩ else ⟨p.1, p.2 + b.1 * sz, none⟩)) (b.2.1 - b.1) (b.2.2 - b.1), h) := rfl
@[simp] theorem bounds_none {n c : Nat} : bounds n c none none none = some (0, n, c) := by simp [bounds]
end Go.Dx

/- New blocks that are filled at once; numbers brought within bounds. -/
set_option linter.unusedSimpArgs false
set_option linter.unusedVariables false
namespace Go.Dx
open Go
@[simp] theorem push_put_self {h : Hp} {o p : Ob} : (h.push o).put h.next (some p) = h.push p := Hp.ext' rfl fun b => by
  by_cases hb : b = h.next
  · subst hb
    rw [get_put_self (by simp), get_push_self]
  · rw [get_put_ne hb, get_push_ne hb, get_push_ne hb]
@[simp] theorem wr_new {h : Hp} {C vs : List Value} (hn : C.length = vs.length) (h1 : vs.all one = true) : (h.push (.cells false C)).wr h.next 0 vs = some (h.push (.cells false vs)) := by
  rw [wr_all get_push_self hn h1, push_put_self]
def wi (n lo hi : Int) : Int := if lo ≤ n ∧ n ≤ hi then n else lo + n % (hi - lo + 1)
end Go.Dx

/- A part of a slice lies in the same block. -/
set_option linter.unusedSimpArgs false
set_option linter.unusedVariables false
namespace Go.Dx
open Go
theorem sliceV_block {sz n c n' c' : Nat} {a a' : Option Addr} {lo hi mx : Option Value} (e : sliceV sz (.slice a n c) lo hi mx = some (.slice a' n' c')) : ∀ A', a' = some A' → ∃ A, a = some A ∧ A'.block = A.block := by
  intro A' hA
  subst hA
  simp only [sliceV] at e
  split at e
  · cases e
  · split at e
    · cases e
    · cases e
      rename_i b o
      refine ⟨_, rfl, ?_⟩
      split <;> rfl
    · rename_i b o s
      refine ⟨_, rfl, ?_⟩
      split at e
      · cases e
      · split at e
        · cases e; rfl
        · split at e
          · cases e; rfl
          · cases e; rfl
end Go.Dx

/- Memory of bytes: what is loaded, stored, moved, and which pages were written. -/
set_option linter.unusedSimpArgs false
set_option linter.unusedVariables false
namespace Go.Dx
open Go
abbrev By := List (BitVec 8)
def encB : Enc (BitVec 8) := ⟨1, fun x => [u8 x], fun _ => rfl, fun _ => rfl, by decide⟩
@[simp] theorem encB_sz : encB.sz = 1 := rfl
theorem encB_all (B : By) : encB.all B = B.map u8 := by
  induction B with
  | nil => rfl
  | cons x B ih => rw [Enc.all_cons, ih]; rfl
theorem all_u8 (B : By) : (B.map u8).all one = true := by
  rw [← encB_all]; exact encB.all_one B
/-- Are so many bytes there? -/
def thB (B : By) (a : BitVec 32) (n : Int) : Bool := decide (0 ≤ n ∧ (a.toNat : Int) ≤ B.length ∧ n ≤ B.length - a.toNat)
/-- May a word of so many bytes lie there? -/
def evB (B : By) (a : BitVec 32) (n : Int) : Bool := decide ((n = 1 ∨ n = 2 ∨ n = 4) ∧ (a.toNat : Int) % n = 0 ∧ (a.toNat : Int) + n ≤ B.length)
def ldL (l : By) : BitVec 32 := l.foldl (fun v c => (v <<< 8) ||| c.setWidth 32) 0#32
/-- So many bytes, the highest first. -/
def ldB (B : By) (a n : Nat) : BitVec 32 := ldL ((B.drop a).take n)
/-- A row that is laid over another one. -/
def ovB (B : By) (a : Nat) (l : By) : By := B.take a ++ l ++ B.drop (a + l.length)
theorem ovB_length {B l : By} {a : Nat} (h : a + l.length ≤ B.length) : (ovB B a l).length = B.length := by
  simp [ovB]; omega
theorem over_u8 (B l : By) (a : Nat) : over (B.map u8) a (l.map u8) = (ovB B a l).map u8 := by
  simp [over, ovB]
/-- A word's bytes, the highest first. -/
def wdB (v : BitVec 32) (n : Nat) : By := (List.range n).map fun i => (v >>> (8 * (n - 1 - i))).setWidth 8
@[simp] theorem wdB_length (v : BitVec 32) (n : Nat) : (wdB v n).length = n := by simp [wdB]
/-- Pages that were written. -/
def tch (M W : List Bool) (a n : Nat) : List Bool := if n = 0 then W else
  (List.range W.length).map fun i => W.getD i false || (decide (a / 1024 ≤ i ∧ i ≤ (a + n - 1) / 1024) && M.getD i false)
@[simp] theorem tch_length (M W : List Bool) (a n : Nat) : (tch M W a n).length = W.length := by
  unfold tch; split <;> simp
end Go.Dx
namespace Go.Dx
open Go
theorem flat_one {n : Nat} {z : Value} : (List.replicate n [z]).flatten = List.replicate n z := by
  induction n with
  | zero => rfl
  | succ n ih => rw [List.replicate_succ, List.flatten_cons, ih, List.replicate_succ]; rfl
@[simp] theorem makeS_one {id y : Nat} {z : Value} {k j : IntKind} {n : Int} (h0 : 0 ≤ n) (h1 : y * n ≤ 2 ^ 47) (h2 : n < 2 ^ 62) : makeS id [z] y (.int k n) (.int j n) = some (.slice (some ⟨id, 0, none⟩) n.toNat n.toNat, .cells false (List.replicate n.toNat z)) := by
  unfold makeS
  simp only []
  rw [if_pos ⟨h0, Int.le_refl _, h1, h2⟩, flat_one]
section
variable {sz b o n : Nat} {k j : IntKind} {lo hi : Int}
theorem sliceV_lo' (h0 : 0 ≤ lo) (h1 : lo ≤ n) : sliceV sz (.slice (some ⟨b, o, none⟩) n n) (some (.int k lo)) none none = some (.slice (some (if n = lo.toNat then ⟨b, o, none⟩ else ⟨b, o + lo.toNat * sz, none⟩)) (n - lo.toNat) (n - lo.toNat)) := by
  obtain ⟨l, rfl⟩ := Int.eq_ofNat_of_zero_le h0
  have h5 : l ≤ n := by omega
  simp [sliceV, bounds, asN, h5]
end
end Go.Dx
namespace Go.Dx
open Go
theorem ldL_snoc (l : By) (c : BitVec 8) : ldL (l ++ [c]) = (ldL l <<< 8) ||| c.setWidth 32 := by simp [ldL]
theorem sees_b {h : Hp} {B : By} {x : Nat} {ro : Bool} (hg : h.get x = some (.cells ro (B.map u8))) : Sees encB h (some ⟨x, 0, none⟩) B := ⟨fun hA => (by cases hA), fun A hA => by
  cases hA
  simp [Hp.rdn, hg]
  rw [encB_all, List.take_of_length_le (by simp)], fun A hA => (by cases hA; exact .inl rfl)⟩
/-- A part of a row, from a word's place on. -/
theorem Sees.parte {α : Type} {E : Enc α} {h : Hp} {v : Option Addr} {xs : List α} {c : Nat} (s : Sees E h v xs) {a : BitVec 32} {m : Nat} (h2 : a.toNat + m ≤ xs.length) (hc : xs.length ≤ c) :
    ∃ a' c', sliceV E.sz (.slice v xs.length c) (some (u32 a)) (some (.int .i64 ((a.toNat : Int) + m))) none = some (.slice a' m c') ∧ m ≤ c' ∧ Sees E h a' ((xs.drop a.toNat).take m) := by
  obtain ⟨a', c', h3, h4, h5⟩ := s.part (lo := a.toNat) (hi := a.toNat + m) (by omega) h2 hc (l := some (u32 a)) (u := some (.int .i64 ((a.toNat : Int) + m))) (.inr ⟨.u32, rfl⟩) (.inr ⟨.i64, by simp⟩)
  have e : a.toNat + m - a.toNat = m := by omega
  rw [e] at h3 h4 h5
  exact ⟨a', c', h3, h4, h5⟩
end Go.Dx
namespace Go.Dx
open Go
def tpg (M W : List Bool) (lo p : Nat) : List Bool := (List.range W.length).map fun i => W.getD i false || (decide (lo ≤ i ∧ i < p) && M.getD i false)
@[simp] theorem tpg_length (M W : List Bool) (lo p : Nat) : (tpg M W lo p).length = W.length := by simp [tpg]
theorem tpg_at {M W : List Bool} {lo p i : Nat} (h : i < W.length) : (tpg M W lo p)[i]? = some (W.getD i false || (decide (lo ≤ i ∧ i < p) && M.getD i false)) := by simp [tpg, h]
theorem tpg_self (M W : List Bool) (lo : Nat) : tpg M W lo lo = W := by
  apply List.ext_getElem?
  intro i
  by_cases hi : i < W.length
  · rw [tpg_at hi]
    have : ¬ (lo ≤ i ∧ i < lo) := by omega
    simp [this, List.getElem?_eq_getElem hi]
  · rw [List.getElem?_eq_none (by simp; omega), List.getElem?_eq_none (by omega)]
theorem tpg_set {M W : List Bool} {lo p : Nat} (h0 : lo ≤ p) (h1 : p < W.length) : (tpg M W lo p).set p (W.getD p false || M.getD p false) = tpg M W lo (p + 1) := by
  apply List.ext_getElem?
  intro i
  by_cases hi : i < W.length
  · rw [tpg_at hi]
    by_cases hp : p = i
    · subst hp
      rw [List.getElem?_set_self (by simpa using h1)]
      have : lo ≤ p ∧ p < p + 1 := by omega
      simp [this]
    · rw [List.getElem?_set_ne hp, tpg_at hi]
      have : (lo ≤ i ∧ i < p) ↔ (lo ≤ i ∧ i < p + 1) := by omega
      simp only [this]
  · rw [List.getElem?_eq_none (by simp; omega), List.getElem?_eq_none (by simp; omega)]
theorem tch_tpg (M W : List Bool) {a n : Nat} (h : n ≠ 0) : tch M W a n = tpg M W (a / 1024) ((a + n - 1) / 1024 + 1) := by
  unfold tch tpg
  rw [if_neg h]
  apply List.map_congr_left
  intro i _
  have : (a / 1024 ≤ i ∧ i ≤ (a + n - 1) / 1024) ↔ (a / 1024 ≤ i ∧ i < (a + n - 1) / 1024 + 1) := by omega
  simp only [this]
end Go.Dx
namespace Go.Dx
open Go
theorem ovB_nil (B : By) (a : Nat) : ovB B a [] = B := by simp [ovB]
theorem put_get {h : Hp} {b : Nat} {o : Ob} (hg : h.get b = some o) : h.put b (some o) = h := Hp.ext' rfl fun k => by
  by_cases hk : k = b
  · subst hk; rw [get_put_self (lt_of_get hg), hg]
  · rw [get_put_ne hk]
/-- Bytes that are copied into memory. -/
theorem cpy_in {h : Hp} {x c c' : Nat} {B l : By} {s : Option Addr} {a : Nat} (hg : h.get x = some (.cells false (B.map u8))) (S : Sees encB h s l) (hl : a + l.length ≤ B.length) :
    copyV h 1 (.slice (some (if B.length = a then ⟨x, 0, none⟩ else ⟨x, a, none⟩)) (B.length - a) c) (.slice s l.length c') = some (.int .i64 l.length, h.put x (some (.cells false ((ovB B a l).map u8)))) := by
  have he := S.elems (c := c')
  simp only [encB_sz, encB_all] at he
  have hm : min l.length (B.length - a) = l.length := by omega
  unfold copyV
  simp only [lenV, hm, he]
  by_cases h0 : l.length = 0
  · have : l = [] := List.length_eq_zero_iff.1 h0
    subst this
    rw [ovB_nil, put_get hg]
    simp
  · rw [if_neg h0, if_neg (by omega), wr_ok hg (by simp; omega) (all_u8 l), over_u8]
    simp
end Go.Dx

/- Strings of bytes; bytes that are copied into a row that is owned. -/
set_option linter.unusedSimpArgs false
set_option linter.unusedVariables false
namespace Go.Dx
open Go
def b2sV (h : Hp) : Value → Option Value
  | .slice none _ _ => some (.string .empty)
  | .slice (some a) n _ => ((if n = 0 then some [] else h.rdn a.block a.off n).bind fun c => c.mapM fun | .int .u8 n => some (UInt8.ofNat n.toNat) | _ => none).map fun l => .string ⟨l.toArray⟩
  | _ => none
@[simp] theorem opV_b2s {e : Env} {h : Hp} {x : X} : opV e h (.b2s x) = (b2sV h (x.ev e)).map fun v => (v, h) := by
  simp only [opV, b2sV]
  generalize x.ev e = v
  cases v with
  | slice a n c =>
    cases a with
    | none => rfl
    | some a => simp only [Option.map_map]; rfl
  | _ => rfl
/-- A string of bytes. -/
def strB (B : By) : Value := .string ⟨(B.map fun c => UInt8.ofNat c.toNat).toArray⟩
@[simp] theorem eql_self {s : ByteArray} : binV .eql (.string s) (.string s) = some (.bool true) := by simp [binV, binS]
@[simp] theorem neq_self {s : ByteArray} : binV .neq (.string s) (.string s) = some (.bool false) := by simp [binV, binS]
@[simp] theorem eql_strB {B : By} : binV .eql (strB B) (strB B) = some (.bool true) := eql_self
@[simp] theorem neq_strB {B : By} : binV .neq (strB B) (strB B) = some (.bool false) := neq_self
end Go.Dx

/- Functions that are given as what they are worth. -/
set_option linter.unusedSimpArgs false
set_option linter.unusedVariables false
namespace Go.Dx
open Go
@[simp] theorem cells_chan {c : Option Nat} : (Value.chan c).cells = #[.chan c] := by simp [Value.cells]
/-- How many a channel holds. -/
def lenC (h : Hp) : Value → Option Value
  | .chan (some r) => (match h.get r with | some (.chan _ buf) => some (goInt buf.length) | _ => none)
  | _ => none
@[simp] theorem opV_len3 {e : Env} {h : Hp} {x : X} : opV e h (.len 3 x) = (lenC h (x.ev e)).map fun v => (v, h) := by
  simp only [opV, lenC]
  generalize x.ev e = v
  cases v with
  | chan r =>
    cases r with
    | none => rfl
    | some r =>
      simp only []
      cases h.get r with
      | none => rfl
      | some o => cases o <;> rfl
  | _ => rfl
end Go.Dx

/- Instructions: words as instructions. -/
set_option linter.unusedSimpArgs false
set_option linter.unusedVariables false
namespace Go.Dx
open Go
/-- An instruction. -/
structure Ins where
  k : Int
  s : Int
  t : Int
  d : Int
  sh : Int
  imm : BitVec 32
deriving DecidableEq
def encIns : Enc Ins := ⟨6, fun x => [.int .i64 x.k, .int .i64 x.s, .int .i64 x.t, .int .i64 x.d, .int .i64 x.sh, u32 x.imm], fun _ => rfl, fun _ => rfl, by decide⟩
@[simp] theorem encIns_sz : encIns.sz = 6 := rfl
def spTab : List Int := [1, 0, 2, 3, 4, 0, 5, 6, 7, 8, 9, 10, 11, 12, 0, 13, 14, 15, 16, 17, 0, 0, 0, 0, 18, 19, 20, 21, 0, 0, 0, 0, 22, 23, 24, 25, 26, 27, 28, 29, 0, 0, 30, 31, 0, 0, 0, 0, 32, 0, 33, 0, 34, 0, 35, 0, 0, 0, 0, 0, 0, 0, 0, 0]
def rgTab : List Int := [36, 37, 0, 0, 0, 0, 0, 0, 0, 0, 0, 0, 0, 0, 0, 0, 38, 39, 0, 0, 0, 0, 0, 0, 0, 0, 0, 0, 0, 0, 0, 0]
def tbTab : List Int := [0, 56, 57, 0, 0, 0, 58, 0, 59, 0, 0, 0, 0, 0, 0, 0, 0, 0, 0, 0, 0, 0, 0, 0, 60, 0, 0, 0, 0, 0, 0, 0, 61, 0, 0, 0, 0, 0, 0, 0, 0, 0, 0, 0, 0, 0, 0, 0, 0, 0, 0, 0, 0, 0, 0, 0, 0, 0, 0, 0, 0, 0, 0, 0]
def s2Tab : List Int := [0, 0, 63, 0, 0, 0, 0, 0, 0, 0, 0, 0, 0, 0, 0, 0, 0, 0, 0, 0, 0, 0, 0, 0, 0, 0, 0, 0, 0, 0, 0, 0, 64, 65, 0, 0, 0, 0, 0, 0, 0, 0, 0, 0, 0, 0, 0, 0, 0, 0, 0, 0, 0, 0, 0, 0, 0, 0, 0, 0, 0, 0, 0, 0]
def mjTab : List Int := [0, 0, 40, 41, 42, 43, 44, 45, 46, 47, 48, 49, 50, 51, 52, 53, 0, 62, 0, 0, 0, 0, 0, 0, 0, 0, 0, 0, 0, 0, 0, 0, 66, 67, 0, 68, 69, 70, 0, 0, 71, 72, 0, 73, 0, 0, 0, 76, 74, 0, 0, 77, 0, 0, 0, 0, 75, 0, 0, 0, 0, 0, 0, 0]
def fdTab : List Nat := [0, 14, 14, 14, 7, 7, 7, 1, 5, 7, 7, 0, 0, 0, 4, 1, 4, 1, 3, 3, 3, 3, 7, 7, 7, 7, 7, 7, 7, 7, 7, 7, 3, 3, 3, 3, 17, 17, 17, 17, 32, 32, 19, 19, 17, 17, 19, 19, 19, 19, 19, 19, 19, 18, 6, 6, 0, 0, 0, 0, 0, 0, 0, 7, 5, 5, 19, 19, 19, 19, 19, 19, 19, 19, 19, 19, 0, 0]
def clTab : List Int := [6, 1, 1, 1, 1, 1, 1, 3, 3, 1, 1, 6, 6, 1, 1, 1, 1, 1, 1, 1, 1, 1, 2, 1, 2, 1, 1, 1, 1, 1, 1, 1, 2, 2, 2, 2, 3, 3, 3, 3, 3, 3, 3, 3, 3, 3, 2, 1, 1, 1, 1, 1, 1, 1, 6, 6, 6, 6, 6, 6, 6, 6, 6, 1, 1, 1, 4, 4, 4, 4, 4, 5, 5, 5, 4, 5, 1, 1]
def dkind (w : BitVec 32) : Int :=
  if w >>> 26 = 0#32 then spTab.getD (w &&& 63#32).toNat 0
  else if w >>> 26 = 1#32 then rgTab.getD (w >>> 16 &&& 31#32).toNat 0
  else if w >>> 26 = 16#32 then (if w >>> 21 &&& 31#32 = 0#32 then 54 else if w >>> 21 &&& 31#32 = 4#32 then 55 else if w >>> 21 &&& 31#32 = 16#32 then tbTab.getD (w &&& 63#32).toNat 0 else 0)
  else if w >>> 26 = 28#32 then s2Tab.getD (w &&& 63#32).toNat 0
  else mjTab.getD (w >>> 26).toNat 0
def dfld (k : Int) : Nat := fdTab.getD k.toNat 0
def dcls (k : Int) : Int := clTab.getD k.toNat 6
def dwith (k : Int) (w : BitVec 32) : Ins :=
  ⟨k, if (dfld k).testBit 0 then ((w >>> 21 &&& 31#32).toNat : Int) else 0, if (dfld k).testBit 1 then ((w >>> 16 &&& 31#32).toNat : Int) else 0,
    if (dfld k).testBit 2 then ((w >>> 11 &&& 31#32).toNat : Int) else 0, if (dfld k).testBit 3 then ((w >>> 6 &&& 31#32).toNat : Int) else 0,
    if (dfld k).testBit 4 then w &&& 65535#32 else if (dfld k).testBit 5 then w &&& 67108863#32 else 0#32⟩
def dOf (w : BitVec 32) : Ins := dwith (dkind w) w
theorem getD_bd {l : List Int} {b : Int} (hb : 0 ≤ b) (h : ∀ x ∈ l, 0 ≤ x ∧ x ≤ b) (n : Nat) : 0 ≤ l.getD n 0 ∧ l.getD n 0 ≤ b := by
  rw [List.getD_eq_getElem?_getD]
  by_cases hn : n < l.length
  · rw [List.getElem?_eq_getElem hn]
    exact h _ (List.getElem_mem hn)
  · rw [List.getElem?_eq_none (by omega)]
    exact ⟨Int.le_refl 0, hb⟩
theorem dkind_bd (w : BitVec 32) : 0 ≤ dkind w ∧ dkind w ≤ 77 := by
  unfold dkind
  split
  · exact getD_bd (by decide) (by decide) _
  split
  · exact getD_bd (by decide) (by decide) _
  split
  · split
    · decide
    split
    · decide
    split
    · exact getD_bd (by decide) (by decide) _
    · decide
  split
  · exact getD_bd (by decide) (by decide) _
  · exact getD_bd (by decide) (by decide) _
theorem lt_shr (w : BitVec 32) (n k : Nat) (hn : n < 32) (h : 2 ^ 32 ≤ 2 ^ n * k) : (w >>> n).toNat < k := by
  rw [BitVec.toNat_ushiftRight, Nat.shiftRight_eq_div_pow]
  have := w.isLt
  exact Nat.div_lt_of_lt_mul (Nat.lt_of_lt_of_le this h)
theorem lt_and63 (w : BitVec 32) : (w &&& 63#32).toNat < 64 := by
  rw [BitVec.toNat_and]
  exact Nat.lt_succ_of_le (Nat.and_le_right)
theorem lt_and31 (w : BitVec 32) : (w &&& 31#32).toNat < 32 := by
  rw [BitVec.toNat_and]
  exact Nat.lt_succ_of_le (Nat.and_le_right)
end Go.Dx

/- Instructions: their fields put together again; their operations. -/
set_option linter.unusedSimpArgs false
set_option linter.unusedVariables false
namespace Go.Dx
open Go
def dput (i : Ins) : BitVec 32 := BitVec.ofInt 32 i.s <<< 21 ||| BitVec.ofInt 32 i.t <<< 16 ||| BitVec.ofInt 32 i.d <<< 11 ||| BitVec.ofInt 32 i.sh <<< 6 ||| i.imm
theorem or_nat {a b n : Nat} (h : b < 2 ^ n) : a * 2 ^ n ||| b = a * 2 ^ n + b := by
  rw [← Nat.shiftLeft_eq, Nat.shiftLeft_add_eq_or_of_lt h]
theorem put_nat {s t d k : Nat} {m : BitVec 32} (hs : s < 32) (ht : t < 32) (hd : d < 32) (hk : k < 32) (hm : m.toNat < 64) :
    (BitVec.ofInt 32 (s : Int) <<< 21 ||| BitVec.ofInt 32 (t : Int) <<< 16 ||| BitVec.ofInt 32 (d : Int) <<< 11 ||| BitVec.ofInt 32 (k : Int) <<< 6 ||| m).toNat = s * 2097152 + (t * 65536 + (d * 2048 + (k * 64 + m.toNat))) := by
  have e : ∀ (x n : Nat), x < 32 → n ≤ 21 → (BitVec.ofInt 32 (x : Int) <<< n).toNat = x * 2 ^ n := fun x n hx hn => by
    rw [BitVec.ofInt_natCast, BitVec.toNat_shiftLeft, BitVec.toNat_ofNat, Nat.mod_eq_of_lt (show x < 2 ^ 32 by omega), Nat.shiftLeft_eq, Nat.mod_eq_of_lt]
    have : (2 : Nat) ^ n ≤ 2 ^ 21 := Nat.pow_le_pow_right (by omega) hn
    have : x * 2 ^ n ≤ 31 * 2 ^ 21 := Nat.mul_le_mul (by omega) this
    omega
  simp only [BitVec.toNat_or, Nat.or_assoc]
  rw [e s 21 hs (by omega), e t 16 ht (by omega), e d 11 hd (by omega), e k 6 hk (by omega)]
  rw [or_nat (n := 6) (by omega), or_nat (n := 11) (by omega), or_nat (n := 16) (by omega), or_nat (n := 21) (by omega)]
theorem put_imm {s t : Nat} {m : BitVec 32} (hs : s < 32) (ht : t < 32) (hm : m.toNat < 65536) :
    (BitVec.ofInt 32 (s : Int) <<< 21 ||| BitVec.ofInt 32 (t : Int) <<< 16 ||| BitVec.ofInt 32 0 <<< 11 ||| BitVec.ofInt 32 0 <<< 6 ||| m).toNat = s * 2097152 + (t * 65536 + m.toNat) := by
  have e : ∀ (x n : Nat), x < 32 → n ≤ 21 → (BitVec.ofInt 32 (x : Int) <<< n).toNat = x * 2 ^ n := fun x n hx hn => by
    rw [BitVec.ofInt_natCast, BitVec.toNat_shiftLeft, BitVec.toNat_ofNat, Nat.mod_eq_of_lt (show x < 2 ^ 32 by omega), Nat.shiftLeft_eq, Nat.mod_eq_of_lt]
    have : (2 : Nat) ^ n ≤ 2 ^ 21 := Nat.pow_le_pow_right (by omega) hn
    have : x * 2 ^ n ≤ 31 * 2 ^ 21 := Nat.mul_le_mul (by omega) this
    omega
  have z : ∀ n : Nat, (BitVec.ofInt 32 0 <<< n) = 0#32 := fun n => by simp
  rw [z, z, BitVec.or_zero, BitVec.or_zero]
  simp only [BitVec.toNat_or, Nat.or_assoc]
  rw [e s 21 hs (by omega), e t 16 ht (by omega)]
  rw [or_nat (n := 16) (by omega), or_nat (n := 21) (by omega)]
theorem fd_nat (w : BitVec 32) (n : Nat) : (w >>> n &&& 31#32).toNat = w.toNat / 2 ^ n % 32 := by
  rw [BitVec.toNat_and, BitVec.toNat_ushiftRight, Nat.shiftRight_eq_div_pow]
  exact Nat.and_two_pow_sub_one_eq_mod _ 5
theorem fd_half (w : BitVec 32) : (w &&& 65535#32).toNat = w.toNat % 65536 := by
  rw [BitVec.toNat_and]; exact Nat.and_two_pow_sub_one_eq_mod _ 16
theorem fd_long (w : BitVec 32) : (w &&& 67108863#32).toNat = w.toNat % 67108864 := by
  rw [BitVec.toNat_and]; exact Nat.and_two_pow_sub_one_eq_mod _ 26
theorem dfld_all {k : Int} (hk : 0 ≤ k ∧ k ≤ 77) : dfld k = 0 ∨ dfld k = 1 ∨ dfld k = 3 ∨ dfld k = 4 ∨ dfld k = 5 ∨ dfld k = 6 ∨ dfld k = 7 ∨ dfld k = 14 ∨ dfld k = 17 ∨ dfld k = 18 ∨ dfld k = 19 ∨ dfld k = 32 := by
  obtain ⟨n, rfl⟩ : ∃ n : Nat, k = n := ⟨k.toNat, by omega⟩
  have : ∀ n : Fin 78, dfld (n.val : Int) = 0 ∨ dfld (n.val : Int) = 1 ∨ dfld (n.val : Int) = 3 ∨ dfld (n.val : Int) = 4 ∨ dfld (n.val : Int) = 5 ∨ dfld (n.val : Int) = 6 ∨ dfld (n.val : Int) = 7 ∨ dfld (n.val : Int) = 14 ∨ dfld (n.val : Int) = 17 ∨ dfld (n.val : Int) = 18 ∨ dfld (n.val : Int) = 19 ∨ dfld (n.val : Int) = 32 := by decide
  exact this ⟨n, by omega⟩
theorem dput_nat {i : Ins} {s t d k : Nat} (h1 : i.s = s) (h2 : i.t = t) (h3 : i.d = d) (h4 : i.sh = k) (h5 : i.imm = 0#32) (hs : s < 32) (ht : t < 32) (hd : d < 32) (hk : k < 32) :
    (dput i).toNat = s * 2097152 + (t * 65536 + (d * 2048 + (k * 64))) := by
  rw [dput, h1, h2, h3, h4, h5, put_nat hs ht hd hk (by decide)]
  rfl
theorem dput_imm {i : Ins} {s t : Nat} (h1 : i.s = s) (h2 : i.t = t) (h3 : i.d = 0) (h4 : i.sh = 0) (hs : s < 32) (ht : t < 32) (hm : i.imm.toNat < 65536) :
    (dput i).toNat = s * 2097152 + (t * 65536 + i.imm.toNat) := by
  rw [dput, h1, h2, h3, h4, put_imm hs ht hm]
theorem dput_long {i : Ins} (h1 : i.s = 0) (h2 : i.t = 0) (h3 : i.d = 0) (h4 : i.sh = 0) : dput i = i.imm := by
  rw [dput, h1, h2, h3, h4]
  simp
/-- An instruction's fields, put together, give it again. -/
theorem dwith_put {k : Int} {w : BitVec 32} (hk : 0 ≤ k ∧ k ≤ 77) : dwith k (dput (dwith k w)) = dwith k w := by
  have key : ∀ (p x : BitVec 32) (n : Nat), p.toNat / 2 ^ n % 32 = x.toNat → ((p >>> n &&& 31#32).toNat : Int) = (x.toNat : Int) := fun p x n h => by rw [fd_nat, h]
  have keyh : ∀ (p x : BitVec 32), p.toNat % 65536 = x.toNat → p &&& 65535#32 = x := fun p x h => BitVec.eq_of_toNat_eq (by rw [fd_half, h])
  have fl : ∀ n, (w >>> n &&& 31#32).toNat < 32 := fun n => by rw [fd_nat]; omega
  have hl : (w &&& 65535#32).toNat < 65536 := by rw [fd_half]; omega
  have f1 := fl 21
  have f2 := fl 16
  have f3 := fl 11
  have f4 := fl 6
  rcases dfld_all hk with e | e | e | e | e | e | e | e | e | e | e | e
  · simp (config := {decide := true}) [dwith, e]
  · have hp := dput_nat (i := dwith k w) (s := (w >>> 21 &&& 31#32).toNat) (t := 0) (d := 0) (k := 0) (by simp (config := {decide := true}) [dwith, e]) (by simp (config := {decide := true}) [dwith, e]) (by simp (config := {decide := true}) [dwith, e]) (by simp (config := {decide := true}) [dwith, e]) (by simp (config := {decide := true}) [dwith, e]) (by omega) (by omega) (by omega) (by omega)
    generalize dput (dwith k w) = p at hp
    simp (config := {decide := true}) only [dwith, e, if_true, if_false, Bool.false_eq_true, Ins.mk.injEq, true_and, and_true]
    exact key _ _ _ (by omega)
  · have hp := dput_nat (i := dwith k w) (s := (w >>> 21 &&& 31#32).toNat) (t := (w >>> 16 &&& 31#32).toNat) (d := 0) (k := 0) (by simp (config := {decide := true}) [dwith, e]) (by simp (config := {decide := true}) [dwith, e]) (by simp (config := {decide := true}) [dwith, e]) (by simp (config := {decide := true}) [dwith, e]) (by simp (config := {decide := true}) [dwith, e]) (by omega) (by omega) (by omega) (by omega)
    generalize dput (dwith k w) = p at hp
    simp (config := {decide := true}) only [dwith, e, if_true, if_false, Bool.false_eq_true, Ins.mk.injEq, true_and, and_true]
    exact ⟨key _ _ _ (by omega), key _ _ _ (by omega)⟩
  · have hp := dput_nat (i := dwith k w) (s := 0) (t := 0) (d := (w >>> 11 &&& 31#32).toNat) (k := 0) (by simp (config := {decide := true}) [dwith, e]) (by simp (config := {decide := true}) [dwith, e]) (by simp (config := {decide := true}) [dwith, e]) (by simp (config := {decide := true}) [dwith, e]) (by simp (config := {decide := true}) [dwith, e]) (by omega) (by omega) (by omega) (by omega)
    generalize dput (dwith k w) = p at hp
    simp (config := {decide := true}) only [dwith, e, if_true, if_false, Bool.false_eq_true, Ins.mk.injEq, true_and, and_true]
    exact key _ _ _ (by omega)
  · have hp := dput_nat (i := dwith k w) (s := (w >>> 21 &&& 31#32).toNat) (t := 0) (d := (w >>> 11 &&& 31#32).toNat) (k := 0) (by simp (config := {decide := true}) [dwith, e]) (by simp (config := {decide := true}) [dwith, e]) (by simp (config := {decide := true}) [dwith, e]) (by simp (config := {decide := true}) [dwith, e]) (by simp (config := {decide := true}) [dwith, e]) (by omega) (by omega) (by omega) (by omega)
    generalize dput (dwith k w) = p at hp
    simp (config := {decide := true}) only [dwith, e, if_true, if_false, Bool.false_eq_true, Ins.mk.injEq, true_and, and_true]
    exact ⟨key _ _ _ (by omega), key _ _ _ (by omega)⟩
  · have hp := dput_nat (i := dwith k w) (s := 0) (t := (w >>> 16 &&& 31#32).toNat) (d := (w >>> 11 &&& 31#32).toNat) (k := 0) (by simp (config := {decide := true}) [dwith, e]) (by simp (config := {decide := true}) [dwith, e]) (by simp (config := {decide := true}) [dwith, e]) (by simp (config := {decide := true}) [dwith, e]) (by simp (config := {decide := true}) [dwith, e]) (by omega) (by omega) (by omega) (by omega)
    generalize dput (dwith k w) = p at hp
    simp (config := {decide := true}) only [dwith, e, if_true, if_false, Bool.false_eq_true, Ins.mk.injEq, true_and, and_true]
    exact ⟨key _ _ _ (by omega), key _ _ _ (by omega)⟩
  · have hp := dput_nat (i := dwith k w) (s := (w >>> 21 &&& 31#32).toNat) (t := (w >>> 16 &&& 31#32).toNat) (d := (w >>> 11 &&& 31#32).toNat) (k := 0) (by simp (config := {decide := true}) [dwith, e]) (by simp (config := {decide := true}) [dwith, e]) (by simp (config := {decide := true}) [dwith, e]) (by simp (config := {decide := true}) [dwith, e]) (by simp (config := {decide := true}) [dwith, e]) (by omega) (by omega) (by omega) (by omega)
    generalize dput (dwith k w) = p at hp
    simp (config := {decide := true}) only [dwith, e, if_true, if_false, Bool.false_eq_true, Ins.mk.injEq, true_and, and_true]
    exact ⟨key _ _ _ (by omega), key _ _ _ (by omega), key _ _ _ (by omega)⟩
  · have hp := dput_nat (i := dwith k w) (s := 0) (t := (w >>> 16 &&& 31#32).toNat) (d := (w >>> 11 &&& 31#32).toNat) (k := (w >>> 6 &&& 31#32).toNat) (by simp (config := {decide := true}) [dwith, e]) (by simp (config := {decide := true}) [dwith, e]) (by simp (config := {decide := true}) [dwith, e]) (by simp (config := {decide := true}) [dwith, e]) (by simp (config := {decide := true}) [dwith, e]) (by omega) (by omega) (by omega) (by omega)
    generalize dput (dwith k w) = p at hp
    simp (config := {decide := true}) only [dwith, e, if_true, if_false, Bool.false_eq_true, Ins.mk.injEq, true_and, and_true]
    exact ⟨key _ _ _ (by omega), key _ _ _ (by omega), key _ _ _ (by omega)⟩
  · have hi : (dwith k w).imm = w &&& 65535#32 := (by simp (config := {decide := true}) [dwith, e])
    have hp := dput_imm (i := dwith k w) (s := (w >>> 21 &&& 31#32).toNat) (t := 0) (by simp (config := {decide := true}) [dwith, e]) (by simp (config := {decide := true}) [dwith, e]) (by simp (config := {decide := true}) [dwith, e]) (by simp (config := {decide := true}) [dwith, e]) (by omega) (by omega) (by rw [hi]; exact hl)
    rw [hi] at hp
    generalize dput (dwith k w) = p at hp
    simp (config := {decide := true}) only [dwith, e, if_true, if_false, Bool.false_eq_true, Ins.mk.injEq, true_and, and_true]
    exact ⟨key _ _ _ (by omega), keyh _ _ (by omega)⟩
  · have hi : (dwith k w).imm = w &&& 65535#32 := (by simp (config := {decide := true}) [dwith, e])
    have hp := dput_imm (i := dwith k w) (s := 0) (t := (w >>> 16 &&& 31#32).toNat) (by simp (config := {decide := true}) [dwith, e]) (by simp (config := {decide := true}) [dwith, e]) (by simp (config := {decide := true}) [dwith, e]) (by simp (config := {decide := true}) [dwith, e]) (by omega) (by omega) (by rw [hi]; exact hl)
    rw [hi] at hp
    generalize dput (dwith k w) = p at hp
    simp (config := {decide := true}) only [dwith, e, if_true, if_false, Bool.false_eq_true, Ins.mk.injEq, true_and, and_true]
    exact ⟨key _ _ _ (by omega), keyh _ _ (by omega)⟩
  · have hi : (dwith k w).imm = w &&& 65535#32 := (by simp (config := {decide := true}) [dwith, e])
    have hp := dput_imm (i := dwith k w) (s := (w >>> 21 &&& 31#32).toNat) (t := (w >>> 16 &&& 31#32).toNat) (by simp (config := {decide := true}) [dwith, e]) (by simp (config := {decide := true}) [dwith, e]) (by simp (config := {decide := true}) [dwith, e]) (by simp (config := {decide := true}) [dwith, e]) (by omega) (by omega) (by rw [hi]; exact hl)
    rw [hi] at hp
    generalize dput (dwith k w) = p at hp
    simp (config := {decide := true}) only [dwith, e, if_true, if_false, Bool.false_eq_true, Ins.mk.injEq, true_and, and_true]
    exact ⟨key _ _ _ (by omega), key _ _ _ (by omega), keyh _ _ (by omega)⟩
  · rw [dput_long (by simp (config := {decide := true}) [dwith, e]) (by simp (config := {decide := true}) [dwith, e]) (by simp (config := {decide := true}) [dwith, e]) (by simp (config := {decide := true}) [dwith, e])]
    have hw : w &&& 67108863#32 &&& 67108863#32 = w &&& 67108863#32 := by rw [BitVec.and_assoc, BitVec.and_self]
    simp (config := {decide := true}) only [dwith, e, if_true, if_false, Bool.false_eq_true, hw]
def lkTab : List Int := [0, 9, 10, 11, 9, 10, 11, 0, 0, 21, 22, 0, 0, 0, 0, 0, 0, 0, 17, 18, 19, 20, 0, 3, 0, 4, 5, 6, 7, 8, 12, 13, 0, 0, 0, 0, 0, 0, 0, 0, 0, 0, 0, 0, 0, 0, 0, 3, 12, 13, 5, 6, 7, 0, 0, 0, 0, 0, 0, 0, 0, 0, 0, 14, 15, 16, 0, 0, 0, 0, 0, 0, 0, 0, 0, 0, 0, 0]
/-- The operation that does what an instruction does. -/
def lkd (k : Int) : Int := lkTab.getD k.toNat 0
def sxt (v : BitVec 32) : BitVec 32 := sar (v <<< 16) 16
def limm (i : Ins) : BitVec 32 := if i.k = 50 ∨ i.k = 51 ∨ i.k = 52 then i.imm else sxt i.imm
/-- An instruction's operations. -/
def lops (i : Ins) : List IOp :=
  if i.k = 0 ∨ dcls i.k ≠ 1 ∨ i.k = 13 ∨ i.k = 76 ∨ i.k = 77 then []
  else if i.k = 53 then [⟨1, i.t, 0, 0, i.imm <<< 16⟩]
  else if i.k = 14 then [⟨2, i.d, 32, 0, 0#32⟩]
  else if i.k = 16 then [⟨2, i.d, 33, 0, 0#32⟩]
  else if i.k = 15 then [⟨2, 32, i.s, 0, 0#32⟩]
  else if i.k = 17 then [⟨2, 33, i.s, 0, 0#32⟩]
  else if i.k ≤ 3 then [⟨1, 34, 0, 0, BitVec.ofInt 32 i.sh⟩, ⟨lkd i.k, i.d, i.t, 34, 0#32⟩]
  else if i.k ≤ 6 then [⟨lkd i.k, i.d, i.t, i.s, 0#32⟩]
  else if 46 ≤ i.k ∧ i.k ≤ 52 then [⟨1, 34, 0, 0, limm i⟩, ⟨lkd i.k, i.t, i.s, 34, 0#32⟩]
  else [⟨lkd i.k, i.d, i.s, i.t, 0#32⟩]
theorem lops_len (i : Ins) : (lops i).length ≤ 2 := by
  unfold lops
  repeat' split
  all_goals simp
theorem dOf_bd (w : BitVec 32) : (0 ≤ (dOf w).k ∧ (dOf w).k ≤ 77) ∧ (0 ≤ (dOf w).s ∧ (dOf w).s ≤ 31) ∧ (0 ≤ (dOf w).t ∧ (dOf w).t ≤ 31) ∧ (0 ≤ (dOf w).d ∧ (dOf w).d ≤ 31) ∧ (0 ≤ (dOf w).sh ∧ (dOf w).sh ≤ 31) ∧ (dOf w).imm.toNat ≤ 67108863 := by
  have hf : ∀ n, 0 ≤ ((w >>> n &&& 31#32).toNat : Int) ∧ ((w >>> n &&& 31#32).toNat : Int) ≤ 31 := fun n => by rw [fd_nat]; omega
  have f0 : ∀ (c : Prop) [Decidable c] (x : Int), 0 ≤ x ∧ x ≤ 31 → 0 ≤ (if c then x else 0) ∧ (if c then x else 0) ≤ 31 := fun c _ x hx => by split <;> omega
  refine ⟨dkind_bd w, f0 _ _ (hf _), f0 _ _ (hf _), f0 _ _ (hf _), f0 _ _ (hf _), ?_⟩
  show (if (dfld (dkind w)).testBit 4 then w &&& 65535#32 else if (dfld (dkind w)).testBit 5 then w &&& 67108863#32 else 0#32).toNat ≤ 67108863
  have h1 := fd_half w
  have h2 := fd_long w
  split
  · omega
  · split
    · omega
    · decide
theorem dOf_put (w : BitVec 32) : dwith (dOf w).k (dput (dOf w)) = dOf w := dwith_put (dkind_bd w)
end Go.Dx

/- Rows of truths in memory; a row turned. -/
set_option linter.unusedSimpArgs false
set_option linter.unusedVariables false
namespace Go.Dx
open Go
def bls (lv : Live) : List Value := (List.range 40).map fun i : Nat => Value.bool (lv i)
@[simp] theorem bls_length (lv : Live) : (bls lv).length = 40 := by simp [bls]
theorem bls_nat (lv : Live) {i : Nat} (h : i < 40) : (bls lv)[i]? = some (.bool (lv i)) := by simp [bls, h]
theorem bls_at (lv : Live) {i : Int} (h0 : 0 ≤ i) (h1 : i < 40) : (bls lv)[i.toNat]? = some (.bool (lv i)) := by
  rw [bls_nat lv (by omega)]
  have : ((i.toNat : Nat) : Int) = i := by omega
  rw [this]
theorem bls_congr {a b : Live} (h : ∀ c, 0 ≤ c → c < 40 → a c = b c) : bls a = bls b := by
  unfold bls
  apply List.map_congr_left
  intro i hi
  simp at hi
  rw [h i (by omega) (by omega)]
theorem bls_set (lv : Live) {i : Int} (v : Bool) (h0 : 0 ≤ i) (h1 : i < 40) : (bls lv).set i.toNat (.bool v) = bls (fun c => if c = i then v else lv c) := by
  apply List.ext_getElem?
  intro n
  by_cases hn : n < 40
  · rw [List.getElem?_set, bls_nat _ hn, bls_nat _ hn]
    by_cases hi : i.toNat = n
    · rw [if_pos hi, if_pos (by simp; omega), if_pos (by omega)]
    · rw [if_neg hi, if_neg (by omega)]
  · rw [List.getElem?_eq_none (by simp; omega), List.getElem?_eq_none (by simp; omega)]
theorem bls_false : bls (fun _ => false) = List.replicate 40 (.bool false) := by
  apply List.ext_getElem?
  intro n
  by_cases hn : n < 40
  · rw [bls_nat _ hn, List.getElem?_replicate, if_pos hn]
  · rw [List.getElem?_eq_none (by simp; omega), List.getElem?_eq_none (by simp; omega)]
end Go.Dx

/- Blocks: rows of words. -/
set_option linter.unusedSimpArgs false
set_option linter.unusedVariables false
namespace Go.Dx
open Go
/-- A word of memory; nothing where there is none. -/
def ldw (B : By) (a : BitVec 32) : BitVec 32 := if evB B a 4 = true then ldB B a.toNat 4 else 0#32
/-- The words of a block. -/
def bws (B : By) : Nat → Bool → Bool → BitVec 32 → List (BitVec 32)
  | 0, _, _, _ => []
  | n + 1, first, slot, a =>
    if first = false ∧ a % 1024#32 = 0#32 then [] else
    if slot = true ∧ (dcls (dOf (ldw B a)).k = 3 ∨ dcls (dOf (ldw B a)).k = 6) then [] else
    ldw B a :: (if slot = true ∨ dcls (dOf (ldw B a)).k = 6 then [] else bws B n false (decide (dcls (dOf (ldw B a)).k = 3)) (a + 4#32))
theorem bws_len {B : By} : ∀ {n : Nat} {f s : Bool} {a : BitVec 32}, (bws B n f s a).length ≤ n
  | 0, f, s, a => by simp [bws]
  | n + 1, f, s, a => by
    simp only [bws]
    split
    · simp
    split
    · simp
    split
    · simp
    · have := bws_len (B := B) (n := n) (f := false) (s := decide (dcls (dOf (ldw B a)).k = 3)) (a := a + 4#32)
      simp only [List.length_cons]
      omega
theorem mod1024 {a : BitVec 32} : (a % 1024#32 = 0#32) ↔ a.toNat % 1024 = 0 := by
  rw [← BitVec.toNat_inj]
  simp
theorem bws_page {B : By} : ∀ {n : Nat} {f s : Bool} {a : BitVec 32}, a.toNat % 4 = 0 → a.toNat % 1024 + 4 * (bws B n f s a).length ≤ 1024
  | 0, f, s, a, h => by simp [bws]; omega
  | n + 1, f, s, a, h => by
    have ha := a.isLt
    simp only [bws]
    split
    · simp; omega
    split
    · simp; omega
    split
    · simp; omega
    · have e : (a + 4#32).toNat = (a.toNat + 4) % 4294967296 := by simp [BitVec.toNat_add]
      have h4 : (a + 4#32).toNat % 4 = 0 := by omega
      have := bws_page (B := B) (n := n) (f := false) (s := decide (dcls (dOf (ldw B a)).k = 3)) (a := a + 4#32) h4
      simp only [List.length_cons]
      by_cases hz : (a + 4#32).toNat % 1024 = 0
      · have : bws B n false (decide (dcls (dOf (ldw B a)).k = 3)) (a + 4#32) = [] := by
          cases n with
          | zero => rfl
          | succ n => rw [bws, if_pos ⟨rfl, mod1024.mpr hz⟩]
        rw [this]
        simp
        omega
      · omega
theorem bws_at {B : By} : ∀ {n : Nat} {f s : Bool} {a : BitVec 32} {i : Nat} {w : BitVec 32}, (bws B n f s a)[i]? = some w → w = ldw B (a + BitVec.ofNat 32 (4 * i))
  | 0, f, s, a, i, w, h => by simp [bws] at h
  | n + 1, f, s, a, i, w, h => by
    simp only [bws] at h
    split at h
    · simp at h
    split at h
    · simp at h
    cases i with
    | zero => simp at h; simp [h]
    | succ i =>
      rw [List.getElem?_cons_succ] at h
      split at h
      · simp at h
      · have := bws_at h
        rw [this]
        congr 1
        rw [BitVec.add_assoc]
        congr 1
        apply BitVec.eq_of_toNat_eq
        simp
        omega
/-- Does memory have these words from there on? -/
def bsm (B : By) (a : BitVec 32) (k : Nat) : List (BitVec 32) → Bool
  | [] => true
  | w :: ws => (evB B (a + BitVec.ofNat 32 (4 * k)) 4 && decide (ldB B (a + BitVec.ofNat 32 (4 * k)).toNat 4 = w)) && bsm B a (k + 1) ws
theorem bsm_iff {B : By} {a : BitVec 32} : ∀ {ws : List (BitVec 32)} {k : Nat}, bsm B a k ws = true ↔ ∀ i w, ws[i]? = some w → evB B (a + BitVec.ofNat 32 (4 * (k + i))) 4 = true ∧ ldB B (a + BitVec.ofNat 32 (4 * (k + i))).toNat 4 = w
  | [], k => by simp [bsm]
  | w :: ws, k => by
    simp only [bsm, Bool.and_eq_true, decide_eq_true_eq, bsm_iff (ws := ws) (k := k + 1)]
    constructor
    · rintro ⟨h1, h2⟩ i v hv
      cases i with
      | zero => simp at hv; subst hv; exact h1
      | succ i =>
        have := h2 i v (by simpa using hv)
        rwa [show k + 1 + i = k + (i + 1) by omega] at this
    · intro h
      refine ⟨h 0 w rfl, fun i v hv => ?_⟩
      have := h (i + 1) v (by simpa using hv)
      rwa [show k + (i + 1) = k + 1 + i by omega] at this
end Go.Dx
