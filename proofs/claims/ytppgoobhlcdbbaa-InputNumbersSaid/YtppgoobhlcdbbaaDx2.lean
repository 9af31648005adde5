/- The interpreter's single operations (without calls), and how an operation of the translated code is read as one. -/
import Derived.Test.YtppgoobhlcdbbaaDx0
namespace Go.Dx

def evs (e : Env) (l : List X) : List Value := l.map (·.ev e)
def evp (e : Env) (l : List (Nat × Nat × X)) : List (Nat × Nat × Value) := l.map fun p => (p.1, p.2.1, p.2.2.ev e)

/-- The place that a pointer tells. -/
def at? : Value → Option (Nat × Nat)
  | .pointer (some ⟨b, o, none⟩) => some (b, o)
  | _ => none
def ptr (b o : Nat) : Value := .pointer (some ⟨b, o, none⟩)

def indexA (n : Nat) (i : Value) : Option Nat :=
  match i with
  | .int _ k => if 0 ≤ k ∧ k < n then some k.toNat else none
  | _ => none

def makeS (id : Nat) (zero : List Value) (bytes : Nat) (l c : Value) : Option (Value × Ob) :=
  match l, c with
  | .int _ l, .int _ c =>
    if 0 ≤ l ∧ l ≤ c ∧ bytes * c ≤ 2 ^ 47 ∧ c < 2 ^ 62 then
      some (.slice (some ⟨id, 0, none⟩) l.toNat c.toNat, .cells false (List.replicate c.toNat zero).flatten)
    else none
  | _, _ => none

/-- The same key, to the bit. -/
def sameF : Value → Value → Bool
  | .bool a, .bool b => a == b
  | .int j a, .int k b => j == k && a == b
  | .string a, .string b => a == b
  | _, _ => false
def sameL : List Value → List Value → Bool
  | [], [] => true
  | a :: l, b :: m => sameF a b && sameL l m
  | _, _ => false
def sameK : Value → Value → Bool
  | .agg a, .agg b => sameL a.toList b.toList
  | _, _ => false

/-- The operations that make a block: what they tell, and the block. -/
def opA (id : Nat) (e : Env) : Op → Option (Value × Ob)
  | .new zero => some (ptr id 0, .cells false zero)
  | .box x => if isJ (x.ev e) = true then none else some (ptr id 0, .cells false (x.ev e).cells.toList)
  | .bsl n zero ps => (fillIn zero (evp e ps)).map fun c => (.slice (some ⟨id, 0, none⟩) n n, .cells false c)
  | .mkm => some (.map (some id), .map [])
  | .mkc bytes x => match x.ev e with
    | .int _ n => if 0 ≤ n ∧ n ≤ IntKind.i64.max ∧ bytes * n ≤ 2 ^ 47 then some (.chan (some id), .chan n.toNat []) else none
    | _ => none
  | .mks zero bytes l c => makeS id zero bytes (l.ev e) (c.ev e)
  | _ => none
def isA : Op → Bool
  | .new .. | .box .. | .bsl .. | .mkm | .mkc .. | .mks .. => true
  | _ => false

/-- What a look-up tells. -/
def lookV (ok : Bool) (z : Value) : Option (Nat × Value) → Value
  | some (_, v) => if ok then .tuple #[v, .bool true] else v
  | none => if ok then .tuple #[z, .bool false] else z

def opV (e : Env) (h : Hp) : Op → Option (Value × Hp)
  | .mov x => some (x.ev e, h)
  | .pick c a b => match c.ev e with
    | .bool t => some (if t then a.ev e else b.ev e, h)
    | _ => none
  | .new zero => (opA h.next e (.new zero)).map fun r => (r.1, h.push r.2)
  | .box x => (opA h.next e (.box x)).map fun r => (r.1, h.push r.2)
  | .build zero ps => (fillIn zero (evp e ps)).map fun c => (.agg c.toArray, h)
  | .bsl n zero ps => (opA h.next e (.bsl n zero ps)).map fun r => (r.1, h.push r.2)
  | .ld x => (at? (x.ev e)).bind fun p => (h.rd p.1 p.2).map fun v => (v, h)
  | .ldn n x => (at? (x.ev e)).bind fun p => (h.rdn p.1 p.2 n).map fun c => (.agg c.toArray, h)
  | .st a x => (at? (a.ev e)).bind fun p => if one (x.ev e) = true then (h.wr p.1 p.2 [x.ev e]).map fun h => (undef, h) else none
  | .stn n a x => (at? (a.ev e)).bind fun p => match x.ev e with
    | .agg cs => if cs.size = n then (h.wr p.1 p.2 cs.toList).map fun h => (undef, h) else none
    | _ => none
  | .nilc x => match x.ev e with
    | .pointer (some a) => some (.pointer (some a), h)
    | .func (.func f) a b => some (.func (.func f) a b, h)
    | _ => none
  | .bin op x y => (binV op (x.ev e) (y.ev e)).map fun v => (v, h)
  | .eqb neg x y => match x.ev e, y.ev e with
    | .bool a, .bool b => some (.bool ((a == b) != neg), h)
    | _, _ => none
  | .eqn kd neg x => (isNil kd (x.ev e)).map fun b => (.bool (b != neg), h)
  | .eqt neg t x y => (eqV t (x.ev e) (y.ev e)).map fun b => (.bool (b != neg), h)
  | .un op x => (unV op (x.ev e)).map fun v => (v, h)
  | .conv k x => match x.ev e with
    | .int _ n => some (.int k (k.wrap n), h)
    | _ => none
  | .b2s x => match x.ev e with
    | .slice none _ _ => some (.string .empty, h)
    | .slice (some a) n _ => ((if n = 0 then some [] else h.rdn a.block a.off n).bind fun c => c.mapM fun | .int .u8 n => some (UInt8.ofNat n.toNat) | _ => none).map fun l => (.string ⟨l.toArray⟩, h)
    | _ => none
  | .s2b x => match x.ev e with
    | .string s => some (.slice (some ⟨h.next, 0, some 1⟩) s.size s.size, h.push (.cells false (s.data.toList.map fun b => .int .u8 b.toNat)))
    | _ => none
  | .ms x => match x.ev e with
    | .slice (some ⟨b, o, none⟩) n c => (match h.get b with | some (.cells false _) => some (.slice (some ⟨b, o, none⟩) n c, h) | _ => none)
    | _ => none
  | .mkf f caps => some (.func (.func f) #[] (evs e caps).toArray, h)
  | .mkm => (opA h.next e .mkm).map fun r => (r.1, h.push r.2)
  | .mkc bytes x => (opA h.next e (.mkc bytes x)).map fun r => (r.1, h.push r.2)
  | .mks zero bytes l c => (opA h.next e (.mks zero bytes l c)).map fun r => (r.1, h.push r.2)
  | .sls x lo hi => match x.ev e with
    | .string s => (bounds s.size s.size (lo.map (·.ev e)) (hi.map (·.ev e)) none).map fun b => (.string (s.extract b.1 b.2.1), h)
    | _ => none
  | .sl sz x lo hi mx => (sliceV sz (x.ev e) (lo.map (·.ev e)) (hi.map (·.ev e)) (mx.map (·.ev e))).map fun v => (v, h)
  | .sla n sz x lo hi mx => (at? (x.ev e)).bind fun p => (bounds n n (lo.map (·.ev e)) (hi.map (·.ev e)) (mx.map (·.ev e))).map fun b =>
      (.slice (some (if b.2.2 = b.1 then ⟨p.1, p.2, none⟩ else ⟨p.1, p.2 + b.1 * sz, none⟩)) (b.2.1 - b.1) (b.2.2 - b.1), h)
  | .fa off x => (at? (x.ev e)).map fun p => (ptr p.1 (p.2 + off), h)
  | .fld off x => match x.ev e with
    | .agg cs => (cs.toList[off]?).map fun v => (v, h)
    | _ => none
  | .fldn off n x => match x.ev e with
    | .agg cs => if off + n ≤ cs.size then some (.agg ((cs.toList.drop off).take n).toArray, h) else none
    | _ => none
  | .ia sz x i => match x.ev e with
    | .slice (some a) n _ => (indexA n (i.ev e)).map fun k => (ptr a.block (a.off + k * sz), h)
    | _ => none
  | .iaa n sz x i => (at? (x.ev e)).bind fun p => (indexA n (i.ev e)).map fun k => (ptr p.1 (p.2 + k * sz), h)
  | .ixs x i => match x.ev e with
    | .string s => (indexA s.size (i.ev e)).bind fun k => (s.data.toList[k]?).map fun b => (.int .u8 b.toNat, h)
    | _ => none
  | .ixa n x i => match x.ev e with
    | .agg cs => (indexA n (i.ev e)).bind fun k => (cs.toList[k]?).map fun v => (v, h)
    | _ => none
  | .ixan n sz x i => match x.ev e with
    | .agg cs => (indexA n (i.ev e)).bind fun k => if k * sz + sz ≤ cs.size then some (.agg ((cs.toList.drop (k * sz)).take sz).toArray, h) else none
    | _ => none
  | .look t zero ok m k =>
    match (match m.ev e with | .map none => some [] | .map (some r) => (match h.get r with | some (.map es) => some es | _ => none) | _ => none) with
    | none => none
    | some es => (if (eqV t (k.ev e) (k.ev e)).isSome then find t (k.ev e) es 0 else none).map fun r => (lookV ok zero r, h)
  | .mset t m k v => match m.ev e with
    | .map (some r) => match h.get r with
      | some (.map es) => if (eqV t (k.ev e) (k.ev e)).isSome then match find t (k.ev e) es 0 with
          | some (some (i, _)) => match es[i]? with
            | some x => if sameK (k.ev e) x.1 then some (undef, h.put r (some (.map (es.set i (k.ev e, v.ev e))))) else none
            | none => none
          | some none => some (undef, h.put r (some (.map (es ++ [(k.ev e, v.ev e)]))))
          | none => none
        else none
      | _ => none
    | _ => none
  | .ext x i => match x.ev e with
    | .tuple vs => (vs.toList[i]?).map fun v => (v, h)
    | _ => none
  | .len kd x => match kd, x.ev e with
    | 1, .slice _ n _ => some (goInt n, h)
    | 0, .string s => some (goInt s.size, h)
    | 2, .map none => some (goInt 0, h)
    | 2, .map (some r) => (match h.get r with | some (.map es) => some (goInt es.length, h) | _ => none)
    | 3, .chan (some r) => (match h.get r with | some (.chan _ buf) => some (goInt buf.length, h) | _ => none)
    | _, _ => none
  | .lenk n => some (goInt n, h)
  | .app sz bytes x y => appendV h sz bytes (x.ev e) (y.ev e)
  | .cpy sz x y => copyV h sz (x.ev e) (y.ev e)
  | .del t m k => match m.ev e with
    | .map (some r) => match h.get r with
      | some (.map es) => if (eqV t (k.ev e) (k.ev e)).isSome then (find t (k.ev e) es 0).map fun p =>
          (.tuple #[], match p with
            | some (i, _) => h.put r (some (.map (es.eraseIdx i)))
            | none => h) else none
      | _ => none
    | _ => none
  | .clrm x => match x.ev e with
    | .map (some r) => match h.get r with
      | some (.map _) => some (.tuple #[], h.put r (some (.map [])))
      | _ => none
    | _ => none
  | .clr zero x => match x.ev e with
    | .slice none _ _ => some (.tuple #[], h)
    | .slice (some a) n _ => if n = 0 then some (.tuple #[], h) else (h.wr a.block a.off (List.replicate n zero).flatten).map fun h => (.tuple #[], h)
    | _ => none
  | .mx x y => match x.ev e, y.ev e with
    | .int k a, .int j b => if k = j then some (.int k (if b > a then b else a), h) else none
    | _, _ => none
  | .mn x y => match x.ev e, y.ev e with
    | .int k a, .int j b => if k = j then some (.int k (if b < a then b else a), h) else none
    | _, _ => none
  | .call .. | .callv .. => none

/-- A constant that holds no place. -/
def ground : Value → Bool
  | .bool _ | .int .. | .string _ | .pointer none | .slice none _ _ | .map none | .chan none | .nilFunc | .nilIface => true
  | _ => false

def cx : Operand → Option X
  | .tmp t => some (.t t)
  | .const v => if ground v then some (.c v) else none
  | .func f => some (.f f)
  | .global _ => none

def cxs (l : List Operand) : Option (List X) := l.mapM cx

def cxo : Option Operand → Option (Option X)
  | none => some none
  | some x => (cx x).map some

section
variable (P : Program)

def isAggT (t : TypeId) : Option Bool := (P.underlying t).map fun
  | .struct _ | .array .. => true
  | _ => false

def tyOf : Nat → TypeId → Option Ty
  | 0, _ => none
  | n + 1, t => match P.underlying t with
    | some .bool => some .bool
    | some (.int k) => some (.int k)
    | some .string => some .str
    | some (.struct fs) =>
      if P.stoodInHeld t then none else
      (fs.toList.mapM fun f => if f.name = "_" then none else (isAggT P f.type).bind fun a => (tyOf n f.type).map fun ty => (f.offset, P.cellsOf f.type, a, ty)).map .agg
    | some (.array len e) =>
      (isAggT P e).bind fun a => (tyOf n e).map fun ty => .agg ((List.range len).map fun i => (i * P.cellsOf e, P.cellsOf e, a, ty))
    | _ => none

def zeroOf (t : TypeId) : Option (List Value) :=
  match (P.info? t).bind (·.zero) with
  | some v => if v.cells.toList.all ground then some v.cells.toList else none
  | none => none

def place (fs : Array Field) (i : Nat) : Option (Nat × Nat) := (fs[i]?).bind fun f => (P.info? f.type).map fun t => (f.offset, t.size)

def cparts (pl : Nat → Option (Nat × Nat)) (l : List (Nat × Operand)) : Option (List (Nat × Nat × X)) :=
  l.mapM fun p => (pl p.1).bind fun q => (cx p.2).map fun x => (q.1, q.2, x)

def isNilC : Nat → Operand → Bool
  | 0, .const (.pointer none) | 1, .const (.slice none _ _) | 2, .const (.map none) | 3, .const .nilFunc => true
  | _, _ => false

def kindOf : TypeDesc → Option Nat
  | .pointer _ => some 0
  | .slice _ => some 1
  | .map .. => some 2
  | .func .. => some 3
  | _ => none

def compBin (op : BinOp) (t : TypeId) (x y : Operand) : Option Op :=
  match P.underlying t with
  | some (.int _) | some .string => (cx x).bind fun a => (cx y).map fun b => .bin op a b
  | some .bool =>
    match op with
    | .eql => (cx x).bind fun a => (cx y).map fun b => .eqb false a b
    | .neq => (cx x).bind fun a => (cx y).map fun b => .eqb true a b
    | _ => none
  | some (.struct _) | some (.array ..) =>
    if P.eqGuardType P.depth t then none else
    match op with
    | .eql => (tyOf P 20 t).bind fun ty => (cx x).bind fun a => (cx y).map fun b => .eqt false ty a b
    | .neq => (tyOf P 20 t).bind fun ty => (cx x).bind fun a => (cx y).map fun b => .eqt true ty a b
    | _ => none
  | some d => (kindOf d).bind fun kd =>
    match op with
    | .eql => if isNilC kd y then (cx x).map (.eqn kd false) else if isNilC kd x then (cx y).map (.eqn kd false) else none
    | .neq => if isNilC kd y then (cx x).map (.eqn kd true) else if isNilC kd x then (cx y).map (.eqn kd true) else none
    | _ => none
  | none => none

def compConv (src dst : TypeId) (x : Operand) : Option Op :=
  match P.underlying src, P.underlying dst with
  | some (.int _), some (.int k) => (cx x).map (.conv k)
  | some (.slice e), some .string => match P.underlying e with
    | some (.int .u8) => (cx x).map .b2s
    | _ => none
  | some .string, some (.slice e) => match P.underlying e with
    | some (.int .u8) => (cx x).map .s2b
    | _ => none
  | some (.slice _), some (.slice e) => if src = dst then match P.underlying e with
    | some (.int .u8) => (cx x).map .ms
    | _ => none else none
  | _, _ => none

def elemOf (t : TypeId) : Option TypeId :=
  match P.underlying t with
  | some (.slice e) => some e
  | _ => none

/-- Keys of maps: structs of numbers, bools, texts. -/
def flatTy : Ty → Bool
  | .agg ps => ps.all fun p => !p.2.2.1
  | _ => false
def keyTy (kt : TypeId) : Option Ty := (tyOf P 20 kt).bind fun ty => if flatTy ty then some ty else none

def compBuiltin (b : Builtin) (args : List Operand) (ts : List TypeId) : Option Op :=
  match b, args, ts with
  | .len, [x], [t] => match P.underlying t with
    | some .string => (cx x).map (.len 0)
    | some (.slice _) => (cx x).map (.len 1)
    | some (.map ..) => (cx x).map (.len 2)
    | some (.chan ..) => (cx x).map (.len 3)
    | some (.array n _) => some (.lenk n)
    | some (.pointer a) => match P.underlying a with
      | some (.array n _) => some (.lenk n)
      | _ => none
    | _ => none
  | .append, [x, y], [t, u] => match P.underlying t, P.underlying u with
    | some (.slice e), some d =>
      match d with
      | .int _ => none
      | _ => (P.info? e).bind fun i => if (match i.zero with | some z => z.cells.size == i.size | none => false) then (cx x).bind fun a => (cx y).map fun b => .app i.size i.bytes a b else none
    | _, _ => none
  | .copy, [x, y], t :: _ => match P.underlying t with
    | some (.slice e) => (P.info? e).bind fun i => (cx x).bind fun a => (cx y).map fun b => .cpy i.size a b
    | _ => none
  | .max, [x, y], _ => (cx x).bind fun a => (cx y).map fun b => .mx a b
  | .min, [x, y], _ => (cx x).bind fun a => (cx y).map fun b => .mn a b
  | .delete, [m, k], t :: _ => match P.underlying t with
    | some (.map kt _) => match P.underlying kt with
      | some (.struct _) => (keyTy P kt).bind fun ty => (cx m).bind fun a => (cx k).map fun b => .del ty a b
      | _ => none
    | _ => none
  | .clear, [x], [t] => match P.underlying t with
    | some (.map ..) => (cx x).map .clrm
    | some (.slice e) => (zeroOf P e).bind fun z => (cx x).map (.clr z)
    | _ => none
  | _, _, _ => none

/-- May a function be called? -/
def callable (f : FuncId) : Bool :=
  match P.funcs[f]? with
  | some fn => fn.name != "runtime.NumGoroutine" && fn.body.isSome
  | none => false

def comp (o : Oper) : Option Op :=
  match o.op with
  | .move x | .assign x => (cx x).map .mov
  | .pick c a b => (cx c).bind fun c => (cx a).bind fun a => (cx b).map fun b => .pick c a b
  | .alloc t => (zeroOf P t).map .new
  | .box _ x => (cx x).map .box
  | .build t ps => (zeroOf P t).bind fun z => match P.underlying t with
    | some (.struct fs) => if fs.toList.all (fun f => (P.info? f.type).isSome) then (cparts (place P fs) ps.toList).map (.build z) else none
    | some (.array _ e) => (P.info? e).bind fun i => (cparts (fun k => some (k * i.size, i.size)) ps.toList).map (.build z)
    | _ => none
  | .buildSlice t n ps => match P.underlying t with
    | some (.slice e) => (P.info? e).bind fun i => if n * i.size ≤ 2 ^ 24 then
        (if n * i.size = 0 then some [] else (zeroOf P e).bind fun z => if z.length = i.size then some (List.replicate n z).flatten else none).bind fun z =>
          (cparts (fun k => some (k * i.size, i.size)) ps.toList).map (.bsl n z) else none
    | _ => none
  | .load t a => (cx a).bind fun x => (isAggT P t).map fun b => if b then .ldn (P.cellsOf t) x else .ld x
  | .store t a x => (cx a).bind fun a => (cx x).bind fun x => (isAggT P t).bind fun b => if b then some (.stn (P.cellsOf t) a x) else if P.cellsOf t = 1 then some (.st a x) else none
  | .nilCheck x => (cx x).map .nilc
  | .binOp op t x y _ => compBin P op t x y
  | .unOp op _ x => (cx x).map (.un op)
  | .convert s d x => compConv P s d x
  | .makeFunc (.func f) first caps => if first.size = 0 then (cxs caps.toList).map (.mkf f) else none
  | .makeMap _ none => some .mkm
  | .makeChan t x => match P.underlying t with
    | some (.chan _ e) => (P.info? e).bind fun i => (cx x).map (.mkc i.bytes)
    | _ => none
  | .makeSlice t l c => match P.underlying t with
    | some (.slice e) => (P.info? e).bind fun i => (zeroOf P e).bind fun z => if z.length = i.size then (cx l).bind fun l => (cx c).map fun c => .mks z i.bytes l c else none
    | _ => none
  | .slice t x lo hi mx => (cx x).bind fun x => (cxo lo).bind fun lo => (cxo hi).bind fun hi => (cxo mx).bind fun mx => match P.underlying t with
    | some .string => if mx.isNone then some (.sls x lo hi) else none
    | some (.slice e) => (P.info? e).map fun i => .sl i.size x lo hi mx
    | some (.array n e) => (P.info? e).map fun i => .sla n i.size x lo hi mx
    | some (.pointer a) => match P.underlying a with
      | some (.array n e) => (P.info? e).map fun i => .sla n i.size x lo hi mx
      | _ => none
    | _ => none
  | .fieldAddr t x f => match P.underlying t with
    | some (.struct fs) => (fs[f]?).bind fun f => (P.info? f.type).bind fun i => if i.size = 0 then none else (cx x).map (.fa f.offset)
    | _ => none
  | .field t x f => match P.underlying t with
    | some (.struct fs) => (fs[f]?).bind fun f => (isAggT P f.type).bind fun b => (cx x).map fun x => if b then .fldn f.offset (P.cellsOf f.type) x else .fld f.offset x
    | _ => none
  | .indexAddr t x i => match P.underlying t with
    | some (.slice e) => (P.info? e).bind fun s => (cx x).bind fun x => (cx i).map fun i => .ia s.size x i
    | some (.array n e) => (P.info? e).bind fun s => (cx x).bind fun x => (cx i).map fun i => .iaa n s.size x i
    | _ => none
  | .index t x i => match P.underlying t with
    | some .string => (cx x).bind fun x => (cx i).map fun i => .ixs x i
    | some (.array n e) => (isAggT P e).bind fun b => (cx x).bind fun x => (cx i).bind fun i => if b then some (.ixan n (P.cellsOf e) x i) else if P.cellsOf e = 1 then some (.ixa n x i) else none
    | _ => none
  | .lookup t m k ok => match P.underlying t with
    | some (.map kt e) => match P.underlying kt with
      | some (.struct _) => (keyTy P kt).bind fun ty => (match (P.info? e).bind (·.zero) with
          | some (.agg cs) => if cs.toList.all ground then some (Value.agg cs) else none
          | some z => if ground z then some z else none
          | none => none).bind fun z => (cx m).bind fun m => (cx k).map fun k => .look ty z ok m k
      | _ => none
    | _ => none
  | .mapUpdate t m k v => match P.underlying t with
    | some (.map kt _) => match P.underlying kt with
      | some (.struct _) => (keyTy P kt).bind fun ty => (cx m).bind fun m => (cx k).bind fun k => (cx v).map fun v => .mset ty m k v
      | _ => none
    | _ => none
  | .extract x i => (cx x).map fun x => .ext x i
  | .call { callee := .builtin b, args, argTypes } => compBuiltin P b args.toList argTypes.toList
  | .call { callee := .value (.func f), args, .. } => if callable P f then (cxs args.toList).map (.call f) else none
  | .call { callee := .value f, args, .. } => (cx f).bind fun f => (cxs args.toList).map (.callv f)
  | _ => none
end
end Go.Dx
