/- The abstract side: values, abstract heaps and the operations of the interpreter Dx, on data alone. -/
import Derived.Orders
import Derived.Laws.Sem
namespace Go.Dx

/-- What the temporaries hold. -/
abbrev Env := Nat → Value
def upd (e : Env) (d : Nat) (v : Value) : Env := fun t => if t = d then v else e t
def put (e : Env) : Option Nat → Value → Env
  | some d, v => upd e d v
  | none, _ => e

/-- An abstract block. -/
inductive Ob where
  | cells (ro : Bool) (c : List Value)
  | chan (cap : Nat) (buf : List Value)
  | map (es : List (Value × Value))

/-- An abstract heap: blocks by number; none from 'next' on. -/
structure Hp where
  next : Nat
  get : Nat → Option Ob
  wf : ∀ b, next ≤ b → get b = none

theorem Hp.ext' {g h : Hp} (hn : g.next = h.next) (hg : ∀ b, g.get b = h.get b) : g = h := by
  obtain ⟨n, f, w⟩ := g
  obtain ⟨m, k, v⟩ := h
  obtain rfl : n = m := hn
  obtain rfl : f = k := funext hg
  rfl

def Hp.put (h : Hp) (b : Nat) (o : Option Ob) : Hp :=
  ⟨h.next, fun x => if x = b ∧ b < h.next then o else h.get x, fun x hx => by
    rw [if_neg (by omega)]
    exact h.wf x hx⟩
def Hp.push (h : Hp) (o : Ob) : Hp :=
  ⟨h.next + 1, fun x => if x = h.next then some o else h.get x, fun x hx => by
    rw [if_neg (by omega)]
    exact h.wf x (by omega)⟩
def Hp.adv (h : Hp) (k : Nat) : Hp := ⟨h.next + k, h.get, fun x hx => h.wf x (by omega)⟩
/-- Only what is below n, or is one of those kept. -/
def Hp.only (h : Hp) (n : Nat) (keep : List Nat) : Hp :=
  ⟨h.next, fun x => if x < n ∨ x ∈ keep then h.get x else none, fun x hx => by
    split
    · exact h.wf x hx
    · rfl⟩

/-- An operand. -/
inductive X where
  | t (n : Nat)
  | c (v : Value)
  | f (id : Nat)

def X.ev (e : Env) : X → Value
  | .t n => e n
  | .c v => v
  | .f id => .func (.func id) #[] #[]

/-- How two values of a type are held against each other. -/
inductive Ty where
  | bool
  | int (k : IntKind)
  | str
  | agg (parts : List (Nat × Nat × Bool × Ty))      -- offset, cells, an aggregate?, type

/-- The operations. -/
inductive Op where
  | mov (x : X)
  | pick (c a b : X)
  | new (zero : List Value)
  | box (x : X)
  | build (zero : List Value) (parts : List (Nat × Nat × X))
  | bsl (len : Nat) (zero : List Value) (parts : List (Nat × Nat × X))
  | ld (x : X)
  | ldn (n : Nat) (x : X)
  | st (a x : X)
  | stn (n : Nat) (a x : X)
  | nilc (x : X)
  | bin (op : BinOp) (x y : X)
  | eqb (neg : Bool) (x y : X)
  | eqn (kd : Nat) (neg : Bool) (x : X)
  | eqt (neg : Bool) (ty : Ty) (x y : X)
  | un (op : UnOp) (x : X)
  | conv (k : IntKind) (x : X)
  | b2s (x : X)
  | s2b (x : X)
  | ms (x : X)
  | mkf (id : Nat) (caps : List X)
  | mkm
  | mkc (bytes : Nat) (x : X)
  | mks (zero : List Value) (bytes : Nat) (l c : X)
  | sls (x : X) (lo hi : Option X)
  | sl (sz : Nat) (x : X) (lo hi mx : Option X)
  | sla (n sz : Nat) (x : X) (lo hi mx : Option X)
  | fa (off : Nat) (x : X)
  | fld (off : Nat) (x : X)
  | fldn (off n : Nat) (x : X)
  | ia (sz : Nat) (x i : X)
  | iaa (n sz : Nat) (x i : X)
  | ixs (x i : X)
  | ixa (n : Nat) (x i : X)
  | ixan (n sz : Nat) (x i : X)
  | look (ty : Ty) (zero : Value) (ok : Bool) (m k : X)
  | mset (ty : Ty) (m k v : X)
  | ext (x : X) (i : Nat)
  | len (kd : Nat) (x : X)
  | lenk (n : Nat)
  | app (sz bytes : Nat) (x y : X)
  | cpy (sz : Nat) (x y : X)
  | del (ty : Ty) (m k : X)
  | clr (zero : List Value) (x : X)
  | clrm (x : X)
  | mx (x y : X)
  | mn (x y : X)
  | call (f : Nat) (args : List X)
  | callv (f : X) (args : List X)

/-- An operation of a region: where its value goes, its guard, itself. -/
structure O where
  d : Option Nat
  g : Option (Nat × Bool)
  o : Op

/-- An item of a region whose order is left open: an operation (its number in the region), one that makes a block (with the number that is let by for it), one that is asked once more. -/
inductive It where
  | op (i : Nat) (o : O)
  | al (i j : Nat) (o : O)
  | re (i : Nat) (o : O)

inductive C where
  | skip
  | ops (l : List O)
  | any (n : Nat) (l : List It)
  | seq (a b : C)
  | cond (c : X) (a b : C)
  | block (id : Nat) (a : C)
  | loop (a : C)
  | exit (id : Nat)
  | ret

/-- A result: a temporary, or what lies where it points. -/
inductive RV where
  | t (n : Nat)
  | ld (n : Nat)
  | ldn (k n : Nat)

/-- A function: its code, its results, what is let go behind it (none: all that it made). -/
structure F where
  body : C
  res : List RV
  drop : Option (List Nat)

/-- Values that hold no place. -/
def flat : Value → Bool
  | .bool _ | .int .. | .string _ => true
  | _ => false

/-- A row of cells, read. -/
def Hp.cells (h : Hp) (b : Nat) : Option (List Value) :=
  match h.get b with
  | some (.cells _ c) => some c
  | _ => none

/-- Cells written over others from a place on. -/
def over (c : List Value) (o : Nat) (vs : List Value) : List Value := c.take o ++ vs ++ c.drop (o + vs.length)

def one : Value → Bool
  | .agg _ | .tuple _ => false
  | .iface _ u => u.oneCell'
  | _ => true
/-- What nobody looks at. -/
def isJ : Value → Bool
  | .iface _ _ => true
  | _ => false

def Hp.rd (h : Hp) (b o : Nat) : Option Value := (h.cells b).bind (·[o]?)
def Hp.rdn (h : Hp) (b o n : Nat) : Option (List Value) :=
  (h.cells b).bind fun c => if o + n ≤ c.length then some ((c.drop o).take n) else none
def Hp.wr (h : Hp) (b o : Nat) (vs : List Value) : Option Hp :=
  match h.get b with
  | some (.cells false c) => if o + vs.length ≤ c.length ∧ vs.all one = true then some (h.put b (some (.cells false (over c o vs)))) else none
  | _ => none

/-- An index of a value. -/
def asN : Value → Option Nat
  | .int _ n => if 0 ≤ n then some n.toNat else none
  | _ => none

def fillIn (cells : List Value) : List (Nat × Nat × Value) → Option (List Value)
  | [] => some cells
  | (o, n, v) :: r => if isJ v = false ∧ v.cells.size = n ∧ o + n ≤ cells.length then fillIn (over cells o v.cells.toList) r else none

def binI (op : BinOp) (k : IntKind) (a b : Int) : Option Value :=
  match op with
  | .add => some (.int k (k.wrap (a + b)))
  | .sub => some (.int k (k.wrap (a - b)))
  | .mul => some (.int k (k.wrap (a * b)))
  | .quo => if b = 0 then none else some (.int k (k.wrap (a.tdiv b)))
  | .rem => if b = 0 then none else some (.int k (a.tmod b))
  | .and => some (.int k (k.wrap (BitVec.ofInt k.bits a &&& BitVec.ofInt k.bits b).toNat))
  | .or => some (.int k (k.wrap (BitVec.ofInt k.bits a ||| BitVec.ofInt k.bits b).toNat))
  | .xor => some (.int k (k.wrap (BitVec.ofInt k.bits a ^^^ BitVec.ofInt k.bits b).toNat))
  | .andNot => some (.int k (k.wrap (BitVec.ofInt k.bits a &&& ~~~ BitVec.ofInt k.bits b).toNat))
  | .eql => some (.bool (a == b))
  | .neq => some (.bool (a != b))
  | .lss => some (.bool (decide (a < b)))
  | .leq => some (.bool (decide (a ≤ b)))
  | .gtr => some (.bool (decide (a > b)))
  | .geq => some (.bool (decide (a ≥ b)))
  | .shl | .shr => none

def shiftI (op : BinOp) (k : IntKind) (a : Int) (b : Int) : Option Value :=
  if b < 0 then none else
  match op with
  | .shl => some (.int k (k.wrap (a * 2 ^ (min b.toNat k.bits))))
  | .shr => some (.int k (a.fdiv (2 ^ (min b.toNat k.bits))))
  | _ => none

def binS (op : BinOp) (a b : ByteArray) : Option Value :=
  match op with
  | .eql => some (.bool (a.toList == b.toList))
  | .neq => some (.bool (!(a.toList == b.toList)))
  | _ => none

def binV (op : BinOp) : Value → Value → Option Value
  | .int k a, .int j b =>
    match op with
    | .shl | .shr => shiftI op k a b
    | _ => if k = j then binI op k a b else none
  | .string a, .string b => binS op a b
  | _, _ => none

def unV : UnOp → Value → Option Value
  | .neg, .int k n => some (.int k (k.wrap (0 - n)))
  | .xor, .int k n => some (.int k (k.wrap (BitVec.ofInt k.bits (if k.signed then -1 else k.max) ^^^ BitVec.ofInt k.bits n).toNat))
  | .not, .bool b => some (.bool !b)
  | _, _ => none

/-- Is it nil? (0: a pointer, 1: a slice, 2: a map, 3: a function) -/
def isNil : Nat → Value → Option Bool
  | 0, .pointer a => some a.isNone
  | 1, .slice a _ _ => some a.isNone
  | 2, .map a => some a.isNone
  | 3, .nilFunc => some true
  | 3, .func .. => some false
  | _, _ => none

/-- Are two values of a type the same? (none: the values are not of that type) -/
def eqParts (eq : Ty → Value → Value → Option Bool) (xs ys : List Value) : List (Nat × Nat × Bool × Ty) → Option Bool
  | [] => some true
  | (o, n, is, t) :: r =>
    let x := if is then some (Value.agg ((xs.drop o).take n).toArray) else xs[o]?
    let y := if is then some (Value.agg ((ys.drop o).take n).toArray) else ys[o]?
    match x, y with
    | some x, some y =>
      match eq t x y with
      | some true => eqParts eq xs ys r
      | some false => some false
      | none => none
    | _, _ => none

def eqAt : Nat → Ty → Value → Value → Option Bool
  | _ + 1, .bool, .bool a, .bool b => some (a == b)
  | _ + 1, .int k, .int i a, .int j b => if i = k ∧ j = k then some (a == b) else none
  | _ + 1, .str, .string a, .string b => some (a == b)
  | n + 1, .agg ps, .agg xs, .agg ys => eqParts (eqAt n) xs.toList ys.toList ps
  | _, _, _, _ => none

def eqV (t : Ty) (x y : Value) : Option Bool := eqAt 20 t x y

/-- A map's entry of a key: its place and value. -/
def find (t : Ty) (k : Value) : List (Value × Value) → Nat → Option (Option (Nat × Value))
  | [], _ => some none
  | (x, v) :: r, i =>
    match eqV t k x with
    | some true => some (some (i, v))
    | some false => find t k r (i + 1)
    | none => none

/-- The bounds of a slice expression. -/
def bounds (len cap : Nat) (lo hi mx : Option Value) : Option (Nat × Nat × Nat) :=
  match (match mx with | none => some cap | some v => (asN v).bind fun n => if n ≤ cap then some n else none) with
  | none => none
  | some m =>
    match (match hi with | some v => (asN v).bind (fun n => if n ≤ m then some n else none) | none => if mx.isSome then none else some len) with
    | none => none
    | some h =>
      match (match lo with | none => some 0 | some v => (asN v).bind fun n => if n ≤ h then some n else none) with
      | none => none
      | some l => some (l, h, m)

/-- A slice of a slice. A place with 'spot none' has just the capacity that is told; one with 'spot (some sz)' has that or more, in elements of sz cells. -/
def sliceV (sz : Nat) (x : Value) (lo hi mx : Option Value) : Option Value :=
  match x with
  | .slice a len cap =>
    match bounds len cap lo hi mx with
    | none => none
    | some (l, h, m) =>
      match a with
      | none => some (.slice none (h - l) (m - l))
      | some ⟨b, o, none⟩ => some (.slice (some (if m = l then ⟨b, o, none⟩ else ⟨b, o + l * sz, none⟩)) (h - l) (m - l))
      | some ⟨b, o, some e⟩ =>
        if e ≠ sz then none else if mx.isSome ∧ m ≠ l then some (.slice (some ⟨b, o + l * sz, none⟩) (h - l) (m - l)) else if mx.isSome then some (.slice (some ⟨b, o, some e⟩) 0 0)
        else some (.slice (some ⟨b, o + l * sz, some e⟩) (h - l) (m - l))
  | _ => none

/-- The elements of what is appended or copied, so many. -/
def elems (h : Hp) (sz n : Nat) : Value → Option (List Value)
  | .slice (some a) _ _ => h.rdn a.block a.off (n * sz)
  | .slice none _ _ => some []
  | .string s => some ((s.extract 0 n).data.toList.map fun b => .int .u8 b.toNat)
  | _ => none

def lenV : Value → Option Nat
  | .slice _ n _ => some n
  | .string s => some s.size
  | _ => none

def appendV (h : Hp) (sz bytes : Nat) (x y : Value) : Option (Value × Hp) :=
  match x, lenV y with
  | .slice base len cap, some n =>
    match elems h sz n y with
    | none => none
    | some es =>
      if es.length = n * sz then
        if len + n ≤ cap then
          match base with
          | none => if n = 0 then some (.slice none len cap, h) else none
          | some a =>
            if n = 0 then some (.slice (some a) len cap, h) else
            if (match a.spot with | none => true | some e => e == sz) then
              (h.wr a.block (a.off + len * sz) es).map fun h' => (.slice (some a) (len + n) cap, h')
            else none
        else if (2 * (len + n) + 1000) * bytes ≤ 2 ^ 47 ∧ len + n < 2 ^ 62 then
          match base with
          | none => if len = 0 then some (.slice (some ⟨h.next, 0, some sz⟩) n n, h.push (.cells false es)) else none
          | some a =>
            match h.rdn a.block a.off (len * sz) with
            | none => none
            | some old =>
              match a.spot with
              | none => some (.slice (some ⟨h.next, 0, some sz⟩) (len + n) (len + n), h.push (.cells false (old ++ es)))
              | some e =>
                if e = sz ∧ a.off = 0 ∧ 0 < cap ∧ es.all one = true then
                  match h.get a.block with
                  | some (.cells false _) => some (.slice (some ⟨h.next, 0, some sz⟩) (len + n) (len + n), (h.put a.block none).push (.cells false (old ++ es)))
                  | _ => none
                else none
        else none
      else none
  | _, _ => none

def copyV (h : Hp) (sz : Nat) (x y : Value) : Option (Value × Hp) :=
  match x, lenV y with
  | .slice base len _, some m =>
    match elems h sz (min m len) y with
    | none => none
    | some es =>
      match base with
      | none => if es = [] then some (goInt (min m len : Nat), h) else none
      | some a => if min m len = 0 then some (goInt (min m len : Nat), h) else (h.wr a.block a.off es).map fun h' => (goInt (min m len : Nat), h')
  | _, _ => none

end Go.Dx
