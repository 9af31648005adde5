/- What single operations tell, value by value: rules for simp that unfold nothing else. -/
import Derived.Test.YtppgoobhlcdbbaaSx4
set_option linter.unusedSimpArgs false
set_option linter.unusedVariables false
namespace Go.Dx
open Go

def nilV : Value → Option Value
  | .pointer (some a) => some (.pointer (some a))
  | .func (.func f) a b => some (.func (.func f) a b)
  | _ => none
def pickV (a b : Value) : Value → Option Value
  | .bool t => some (if t then a else b)
  | _ => none
def eqbV (neg : Bool) : Value → Value → Option Value
  | .bool a, .bool b => some (.bool ((a == b) != neg))
  | _, _ => none
def extV (i : Nat) : Value → Option Value
  | .tuple vs => vs.toList[i]?
  | _ => none
def fldV (i : Nat) : Value → Option Value
  | .agg cs => cs.toList[i]?
  | _ => none
def lenS : Value → Option Value
  | .slice _ n _ => some (goInt n)
  | _ => none
def iaV (sz : Nat) (i : Value) : Value → Option Value
  | .slice (some a) n _ => (indexA n i).map fun k => ptr a.block (a.off + k * sz)
  | _ => none
section
variable {e : Env} {h : Hp} {x y z : X}
@[simp] theorem opV_mov : opV e h (.mov x) = some (x.ev e, h) := rfl
@[simp] theorem opV_pick : opV e h (.pick x y z) = (pickV (y.ev e) (z.ev e) (x.ev e)).map fun v => (v, h) := by
  simp only [opV, pickV]
  generalize x.ev e = v
  cases v <;> rfl
@[simp] theorem opV_new {l : List Value} : opV e h (.new l) = some (ptr h.next 0, h.push (.cells false l)) := rfl
@[simp] theorem opV_box : opV e h (.box x) = if isJ (x.ev e) = true then none else some (ptr h.next 0, h.push (.cells false (x.ev e).cells.toList)) := by
  simp only [opV, opA]
  split <;> rfl
@[simp] theorem opV_build {l : List Value} {ps : List (Nat × Nat × X)} : opV e h (.build l ps) = (fillIn l (evp e ps)).map fun c => (.agg c.toArray, h) := rfl
@[simp] theorem opV_bsl {n : Nat} {l : List Value} {ps : List (Nat × Nat × X)} : opV e h (.bsl n l ps) = (fillIn l (evp e ps)).map fun c => (.slice (some ⟨h.next, 0, none⟩) n n, h.push (.cells false c)) := by
  simp only [opV, opA]
  cases fillIn l (evp e ps) <;> rfl
@[simp] theorem opV_ld : opV e h (.ld x) = (at? (x.ev e)).bind fun p => (h.rd p.1 p.2).map fun v => (v, h) := rfl
@[simp] theorem opV_ldn {n : Nat} : opV e h (.ldn n x) = (at? (x.ev e)).bind fun p => (h.rdn p.1 p.2 n).map fun c => (.agg c.toArray, h) := rfl
@[simp] theorem opV_st : opV e h (.st x y) = (at? (x.ev e)).bind fun p => if one (y.ev e) = true then (h.wr p.1 p.2 [y.ev e]).map fun h => (undef, h) else none := rfl
@[simp] theorem opV_nilc : opV e h (.nilc x) = (nilV (x.ev e)).map fun v => (v, h) := by
  simp only [opV, nilV]
  generalize x.ev e = v
  cases v <;> first | rfl | skip
  · rename_i p; cases p <;> rfl
  · rename_i f _ _; cases f <;> rfl
@[simp] theorem opV_bin {op : BinOp} : opV e h (.bin op x y) = (binV op (x.ev e) (y.ev e)).map fun v => (v, h) := rfl
@[simp] theorem opV_eqb {n : Bool} : opV e h (.eqb n x y) = (eqbV n (x.ev e) (y.ev e)).map fun v => (v, h) := by
  simp only [opV, eqbV]
  generalize x.ev e = v
  generalize y.ev e = u
  cases v <;> cases u <;> rfl
@[simp] theorem opV_eqn {k : Nat} {n : Bool} : opV e h (.eqn k n x) = (isNil k (x.ev e)).map fun b => (.bool (b != n), h) := rfl
@[simp] theorem opV_eqt {t : Ty} {n : Bool} : opV e h (.eqt n t x y) = (eqV t (x.ev e) (y.ev e)).map fun b => (.bool (b != n), h) := rfl
@[simp] theorem opV_un {op : UnOp} : opV e h (.un op x) = (unV op (x.ev e)).map fun v => (v, h) := rfl
attribute [simp] opV_conv
@[simp] theorem opV_fa {n : Nat} : opV e h (.fa n x) = (at? (x.ev e)).map fun p => (ptr p.1 (p.2 + n), h) := rfl
@[simp] theorem opV_fld {n : Nat} : opV e h (.fld n x) = (fldV n (x.ev e)).map fun v => (v, h) := by
  simp only [opV, fldV]
  generalize x.ev e = v
  cases v <;> rfl
@[simp] theorem opV_ext {n : Nat} : opV e h (.ext x n) = (extV n (x.ev e)).map fun v => (v, h) := by
  simp only [opV, extV]
  generalize x.ev e = v
  cases v <;> rfl
@[simp] theorem opV_ia {n : Nat} : opV e h (.ia n x y) = (iaV n (y.ev e) (x.ev e)).map fun v => (v, h) := by
  simp only [opV, iaV]
  generalize x.ev e = v
  cases v <;> first | rfl | skip
  rename_i p _ _; cases p
  · rfl
  · simp only []; cases indexA _ (y.ev e) <;> rfl
@[simp] theorem opV_len1 : opV e h (.len 1 x) = (lenS (x.ev e)).map fun v => (v, h) := by
  simp only [opV, lenS]
  generalize x.ev e = v
  cases v <;> rfl
@[simp] theorem opV_app {n m : Nat} : opV e h (.app n m x y) = appendV h n m (x.ev e) (y.ev e) := rfl
@[simp] theorem opV_cpy {n : Nat} : opV e h (.cpy n x y) = copyV h n (x.ev e) (y.ev e) := rfl
@[simp] theorem opV_mks {l : List Value} {n : Nat} : opV e h (.mks l n x y) = (makeS h.next l n (x.ev e) (y.ev e)).map fun r => (r.1, h.push r.2) := rfl
@[simp] theorem opV_mkf {n : Nat} {l : List X} : opV e h (.mkf n l) = some (.func (.func n) #[] (evs e l).toArray, h) := rfl
@[simp] theorem opV_sl {n : Nat} {a b c : Option X} : opV e h (.sl n x a b c) = (sliceV n (x.ev e) (a.map (·.ev e)) (b.map (·.ev e)) (c.map (·.ev e))).map fun v => (v, h) := rfl
@[simp] theorem pickV_bool {a b : Value} {t : Bool} : pickV a b (.bool t) = some (if t then a else b) := rfl
@[simp] theorem nilV_ptr {b o : Nat} : nilV (ptr b o) = some (ptr b o) := rfl
@[simp] theorem isNil_ptr {b o : Nat} : isNil 0 (ptr b o) = some false := rfl
@[simp] theorem isNil_pnil : isNil 0 (.pointer none) = some true := rfl
@[simp] theorem eqbV_bool {n a b : Bool} : eqbV n (.bool a) (.bool b) = some (.bool ((a == b) != n)) := rfl
@[simp] theorem extV_tuple {l : List Value} {i : Nat} : extV i (.tuple l.toArray) = l[i]? := rfl
@[simp] theorem lenS_slice {a : Option Addr} {n c : Nat} : lenS (.slice a n c) = some (goInt n) := rfl
@[simp] theorem ev_t {n : Nat} : X.ev e (.t n) = e n := rfl
@[simp] theorem ev_c {v : Value} : X.ev e (.c v) = v := rfl
@[simp] theorem ev_f {n : Nat} : X.ev e (.f n) = .func (.func n) #[] #[] := rfl
@[simp] theorem put_some {d : Nat} {v : Value} : put e (some d) v = upd e d v := rfl
@[simp] theorem put_none {v : Value} : put e none v = e := rfl
@[simp] theorem upd_at {d t : Nat} {v : Value} : upd e d v t = if t = d then v else e t := rfl
@[simp] theorem not_bool {b : Bool} : unV .not (.bool b) = some (.bool !b) := rfl
end
end Go.Dx
