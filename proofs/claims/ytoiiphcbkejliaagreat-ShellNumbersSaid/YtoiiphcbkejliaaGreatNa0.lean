/- A text of this claim. -/
import Derived.Orders
import Derived.Laws.Sem
import Derived.Below
import Derived.Laws.Cells
import Derived.Laws.IdiomCopy
import Derived.Laws.StructEq
namespace Go.Dx
abbrev Env:=Nat→Value
def upd (e:Env) (d:Nat) (v:Value):Env:=fun t=>if t=d then v else e t
def put (e:Env):Option Nat→Value→Env
 | some d,v=>upd e d v
 | none,_=>e
inductive Ob where
 | cells (ro:Bool) (c:List Value)
 | chan (cap:Nat) (buf:List Value)
 | map (es:List (Value×Value))
structure Hp where
 next:Nat
 get:Nat→Option Ob
 wf:∀ b,next≤b→get b=none
theorem Hp.ext' {g h:Hp} (hn:g.next=h.next) (hg:∀ b,g.get b=h.get b):g=h:=by
 obtain ⟨n,f,w⟩:=g
 obtain ⟨m,k,v⟩:=h
 obtain rfl:n=m:=hn
 obtain rfl:f=k:=funext hg
 rfl
def Hp.put (h:Hp) (b:Nat) (o:Option Ob):Hp :=
 ⟨h.next,fun x=>if x=b∧b<h.next then o else h.get x,fun x hx=>by
  rw[if_neg (by omega)]
  exact h.wf x hx⟩
def Hp.push (h:Hp) (o:Ob):Hp :=
 ⟨h.next+1,fun x=>if x=h.next then some o else h.get x,fun x hx=>by
  rw[if_neg (by omega)]
  exact h.wf x (by omega)⟩
def Hp.adv (h:Hp) (k:Nat):Hp:=⟨h.next+k,h.get,fun x hx=>h.wf x (by omega)⟩
def Hp.only (h:Hp) (n:Nat) (keep:List Nat):Hp :=
 ⟨h.next,fun x=>if x<n∨x∈keep then h.get x else none,fun x hx=>by
  split
  ·exact h.wf x hx
  ·rfl⟩
inductive X where
 | t (n:Nat)
 | c (v:Value)
 | f (id:Nat)
def X.ev (e:Env):X→Value
 | .t n=>e n
 | .c v=>v
 | .f id => .func (.func id) #[] #[]
inductive Ty where
 | bool
 | int (k:IntKind)
 | str
 | agg (parts:List (Nat×Nat×Bool×Ty))
inductive Op where
 | mov (x:X)
 | pick (c a b:X)
 | new (zero:List Value)
 | box (x:X)
 | build (zero:List Value) (parts:List (Nat×Nat×X))
 | bsl (len:Nat) (zero:List Value) (parts:List (Nat×Nat×X))
 | ld (x:X)
 | ldn (n:Nat) (x:X)
 | st (a x:X)
 | stn (n:Nat) (a x:X)
 | nilc (x:X)
 | bin (op:BinOp) (x y:X)
 | eqb (neg:Bool) (x y:X)
 | eqn (kd:Nat) (neg:Bool) (x:X)
 | eqt (neg:Bool) (ty:Ty) (x y:X)
 | un (op:UnOp) (x:X)
 | conv (k:IntKind) (x:X)
 | b2s (x:X)
 | s2b (x:X)
 | ms (x:X)
 | mkf (id:Nat) (caps:List X)
 | mkm
 | mkc (bytes:Nat) (x:X)
 | mks (zero:List Value) (bytes:Nat) (l c:X)
 | sls (x:X) (lo hi:Option X)
 | sl (sz:Nat) (x:X) (lo hi mx:Option X)
 | sla (n sz:Nat) (x:X) (lo hi mx:Option X)
 | fa (off:Nat) (x:X)
 | fld (off:Nat) (x:X)
 | fldn (off n:Nat) (x:X)
 | ia (sz:Nat) (x i:X)
 | iaa (n sz:Nat) (x i:X)
 | ixs (x i:X)
 | ixa (n:Nat) (x i:X)
 | ixan (n sz:Nat) (x i:X)
 | look (ty:Ty) (zero:Value) (ok:Bool) (m k:X)
 | mset (ty:Ty) (m k v:X)
 | ext (x:X) (i:Nat)
 | len (kd:Nat) (x:X)
 | lenk (n:Nat)
 | app (sz bytes:Nat) (x y:X)
 | cpy (sz:Nat) (x y:X)
 | del (ty:Ty) (m k:X)
 | clr (zero:List Value) (x:X)
 | clrm (x:X)
 | mx (x y:X)
 | mn (x y:X)
 | call (f:Nat) (args:List X)
 | bC (f:X) (args:List X)
structure O where
 d:Option Nat
 g:Option (Nat×Bool)
 o:Op
inductive It where
 | op (i:Nat) (o:O)
 | al (i j:Nat) (o:O)
 | re (i:Nat) (o:O)
inductive C where
 | skip
 | ops (l:List O)
 | any (n:Nat) (l:List It)
 | seq (a b:C)
 | cond (c:X) (a b:C)
 | block (id:Nat) (a:C)
 | loop (a:C)
 | exit (id:Nat)
 | ret
inductive RV where
 | t (n:Nat)
 | ld (n:Nat)
 | ldn (k n:Nat)
structure F where
 body:C
 res:List RV
 drop:Option (List Nat)
def flat:Value→Bool
 | .bool _ | .int .. | .string _=>true
 | _=>false
def Hp.cells (h:Hp) (b:Nat):Option (List Value) :=
 match h.get b with
 | some (.cells _ c)=>some c
 | _=>none
def over (c:List Value) (o:Nat) (vs:List Value):List Value:=c.take o++vs++c.drop (o+vs.length)
def one:Value→Bool
 | .agg _ | .tuple _=>false
 | .iface _ u=>u.oneCell'
 | _=>true
def isJ:Value→Bool
 | .iface _ _=>true
 | _=>false
def Hp.rd (h:Hp) (b o:Nat):Option Value:=(h.cells b).bind (·[o]?)
def Hp.rdn (h:Hp) (b o n:Nat):Option (List Value) :=
 (h.cells b).bind fun c=>if o+n≤c.length then some ((c.drop o).take n) else none
def Hp.wr (h:Hp) (b o:Nat) (vs:List Value):Option Hp :=
 match h.get b with
 | some (.cells false c)=>if o+vs.length≤c.length∧vs.all one=true then some (h.put b (some (.cells false (over c o vs)))) else none
 | _=>none
def asN:Value→Option Nat
 | .int _ n=>if 0≤n then some n.toNat else none
 | _=>none
def aAt (cells:List Value):List (Nat×Nat×Value)→Option (List Value)
 | []=>some cells
 | (o,n,v)::r=>if isJ v=false∧v.cells.size=n∧o+n≤cells.length then aAt (over cells o v.cells.toList) r else none
def aS (op:BinOp) (k:IntKind) (a b:Int):Option Value :=
 match op with
 | .add=>some (.int k (k.wrap (a+b)))
 | .sub=>some (.int k (k.wrap (a-b)))
 | .mul=>some (.int k (k.wrap (a*b)))
 | .quo=>if b=0 then none else some (.int k (k.wrap (a.tdiv b)))
 | .rem=>if b=0 then none else some (.int k (a.tmod b))
 | .and=>some (.int k (k.wrap (BitVec.ofInt k.bits a&&&BitVec.ofInt k.bits b).toNat))
 | .or=>some (.int k (k.wrap (BitVec.ofInt k.bits a|||BitVec.ofInt k.bits b).toNat))
 | .xor=>some (.int k (k.wrap (BitVec.ofInt k.bits a^^^BitVec.ofInt k.bits b).toNat))
 | .andNot=>some (.int k (k.wrap (BitVec.ofInt k.bits a &&& ~~~ BitVec.ofInt k.bits b).toNat))
 | .eql=>some (.bool (a == b))
 | .neq=>some (.bool (a != b))
 | .lss=>some (.bool (decide (a<b)))
 | .leq=>some (.bool (decide (a≤b)))
 | .gtr=>some (.bool (decide (a>b)))
 | .geq=>some (.bool (decide (a≥b)))
 | .shl | .shr=>none
def aAW (op:BinOp) (k:IntKind) (a:Int) (b:Int):Option Value :=
 if b<0 then none else
 match op with
 | .shl=>some (.int k (k.wrap (a*2^(min b.toNat k.bits))))
 | .shr=>some (.int k (a.fdiv (2^(min b.toNat k.bits))))
 | _=>none
def aPD (op:BinOp) (a b:ByteArray):Option Value :=
 match op with
 | .eql=>some (.bool (a.toList == b.toList))
 | .neq=>some (.bool (!(a.toList == b.toList)))
 | _=>none
def aG (op:BinOp):Value→Value→Option Value
 | .int k a,.int j b =>
  match op with
  | .shl | .shr=>aAW op k a b
  | _=>if k=j then aS op k a b else none
 | .string a,.string b=>aPD op a b
 | _,_=>none
def unV:UnOp→Value→Option Value
 | .neg,.int k n=>some (.int k (k.wrap (0-n)))
 | .xor,.int k n=>some (.int k (k.wrap (BitVec.ofInt k.bits (if k.signed then -1 else k.max)^^^BitVec.ofInt k.bits n).toNat))
 | .not,.bool b=>some (.bool !b)
 | _,_=>none
def isNil:Nat→Value→Option Bool
 | 0,.pointer a=>some a.isNone
 | 1,.slice a _ _=>some a.isNone
 | 2,.map a=>some a.isNone
 | 3,.nilFunc=>some true
 | 3,.func .. => some false
 | _,_=>none
def aA6 (eq:Ty→Value→Value→Option Bool) (xs ys:List Value):List (Nat×Nat×Bool×Ty)→Option Bool
 | []=>some true
 | (o,n,is,t)::r =>
  let x:=if is then some (Value.agg ((xs.drop o).take n).toArray) else xs[o]?
  let y:=if is then some (Value.agg ((ys.drop o).take n).toArray) else ys[o]?
  match x,y with
  | some x,some y =>
   match eq t x y with
   | some true=>aA6 eq xs ys r
   | some false=>some false
   | none=>none
  | _,_=>none
def bD:Nat→Ty→Value→Value→Option Bool
 | _+1,.bool,.bool a,.bool b=>some (a == b)
 | _+1,.int k,.int i a,.int j b=>if i=k∧j=k then some (a == b) else none
 | _+1,.str,.string a,.string b=>some (a == b)
 | n+1,.agg ps,.agg xs,.agg ys=>aA6 (bD n) xs.toList ys.toList ps
 | _,_,_,_=>none
def eqV (t:Ty) (x y:Value):Option Bool:=bD 20 t x y
def find (t:Ty) (k:Value):List (Value×Value)→Nat→Option (Option (Nat×Value))
 | [],_=>some none
 | (x,v)::r,i =>
  match eqV t k x with
  | some true=>some (some (i,v))
  | some false=>find t k r (i+1)
  | none=>none
def bounds (len cap:Nat) (lo hi mx:Option Value):Option (Nat×Nat×Nat) :=
 match (match mx with | none=>some cap | some v=>(asN v).bind fun n=>if n≤cap then some n else none) with
 | none=>none
 | some m =>
  match (match hi with | some v=>(asN v).bind (fun n=>if n≤m then some n else none) | none=>if mx.isSome then none else some len) with
  | none=>none
  | some h =>
   match (match lo with | none=>some 0 | some v=>(asN v).bind fun n=>if n≤h then some n else none) with
   | none=>none
   | some l=>some (l,h,m)
def aA3 (sz:Nat) (x:Value) (lo hi mx:Option Value):Option Value :=
 match x with
 | .slice a len cap =>
  match bounds len cap lo hi mx with
  | none=>none
  | some (l,h,m) =>
   match a with
   | none=>some (.slice none (h-l) (m-l))
   | some ⟨b,o,none⟩=>some (.slice (some (if m=l then ⟨b,o,none⟩ else ⟨b,o+l*sz,none⟩)) (h-l) (m-l))
   | some ⟨b,o,some e⟩ =>
    if e≠sz then none else if mx.isSome∧m≠l then some (.slice (some ⟨b,o+l*sz,none⟩) (h-l) (m-l)) else if mx.isSome then some (.slice (some ⟨b,o,some e⟩) 0 0)
    else some (.slice (some ⟨b,o+l*sz,some e⟩) (h-l) (m-l))
 | _=>none
def elems (h:Hp) (sz n:Nat):Value→Option (List Value)
 | .slice (some a) _ _=>h.rdn a.block a.off (n*sz)
 | .slice none _ _=>some []
 | .string s=>some ((s.extract 0 n).data.toList.map fun b => .int .u8 b.toNat)
 | _=>none
def lenV:Value→Option Nat
 | .slice _ n _=>some n
 | .string s=>some s.size
 | _=>none
def aAI (h:Hp) (sz bytes:Nat) (x y:Value):Option (Value×Hp) :=
 match x,lenV y with
 | .slice base len cap,some n =>
  match elems h sz n y with
  | none=>none
  | some es =>
   if es.length=n*sz then
    if len+n≤cap then
     match base with
     | none=>if n=0 then some (.slice none len cap,h) else none
     | some a =>
      if n=0 then some (.slice (some a) len cap,h) else
      if (match a.spot with | none=>true | some e=>e == sz) then
       (h.wr a.block (a.off+len*sz) es).map fun h'=>(.slice (some a) (len+n) cap,h')
      else none
    else if (2*(len+n)+1000)*bytes≤2^47∧len+n<2^62 then
     match base with
     | none=>if len=0 then some (.slice (some ⟨h.next,0,some sz⟩) n n,h.push (.cells false es)) else none
     | some a =>
      match h.rdn a.block a.off (len*sz) with
      | none=>none
      | some old =>
       match a.spot with
       | none=>some (.slice (some ⟨h.next,0,some sz⟩) (len+n) (len+n),h.push (.cells false (old++es)))
       | some e =>
        if e=sz∧a.off=0∧0<cap∧es.all one=true then
         match h.get a.block with
         | some (.cells false _)=>some (.slice (some ⟨h.next,0,some sz⟩) (len+n) (len+n),(h.put a.block none).push (.cells false (old++es)))
         | _=>none
        else none
    else none
   else none
 | _,_=>none
def copyV (h:Hp) (sz:Nat) (x y:Value):Option (Value×Hp) :=
 match x,lenV y with
 | .slice base len _,some m =>
  match elems h sz (min m len) y with
  | none=>none
  | some es =>
   match base with
   | none=>if es=[] then some (goInt (min m len:Nat),h) else none
   | some a=>if min m len=0 then some (goInt (min m len:Nat),h) else (h.wr a.block a.off es).map fun h'=>(goInt (min m len:Nat),h')
 | _,_=>none
set_option linter.unusedSimpArgs false
set_option linter.unusedVariables false
open Go.RowKit
abbrev Phi:=Nat→Option (Nat×Nat)
inductive VR (φ:Phi):Value→Value→Prop where
 | bool (b:Bool):VR φ (.bool b) (.bool b)
 | int (k:IntKind) (n:Int):VR φ (.int k n) (.int k n)
 | str (s:ByteArray):VR φ (.string s) (.string s)
 | pnil:VR φ (.pointer none) (.pointer none)
 | ptr {b b' n:Nat} (o:Nat) (h:φ b=some (b',n)):VR φ (.pointer (some ⟨b,o,none⟩)) (.pointer (some ⟨b',o,none⟩))
 | snil (n c:Nat):VR φ (.slice none n c) (.slice none n c)
 | sl {b b' m:Nat} (o n c:Nat) (h:φ b=some (b',m)):VR φ (.slice (some ⟨b,o,none⟩) n c) (.slice (some ⟨b',o,none⟩) n c)
 | slo {b b' m:Nat} (o o' n c c' e:Nat) (h:φ b=some (b',m)) (hc:c≤c') (ho:0<c→o'=o) (hn:n≤c) (hv:o'+c'*e≤m) :
   VR φ (.slice (some ⟨b,o,some e⟩) n c) (.slice (some ⟨b',o',none⟩) n c')
 | mnil:VR φ (.map none) (.map none)
 | map {b b' n:Nat} (h:φ b=some (b',n)):VR φ (.map (some b)) (.map (some b'))
 | cnil:VR φ (.chan none) (.chan none)
 | chan {b b' n:Nat} (h:φ b=some (b',n)):VR φ (.chan (some b)) (.chan (some b'))
 | func (f:Nat) (cs cs':Array Value) (hs:cs.size=cs'.size) (h:∀ i,i<cs.size→VR φ (cs.getD i undef) (cs'.getD i undef)) :
   VR φ (.func (.func f) #[] cs) (.func (.func f) #[] cs')
 | nilFunc:VR φ .nilFunc .nilFunc
 | nilIface:VR φ .nilIface .nilIface
 | agg (cs cs':Array Value) (hs:cs.size=cs'.size) (h:∀ i,i<cs.size→VR φ (cs.getD i undef) (cs'.getD i undef)):VR φ (.agg cs) (.agg cs')
 | tuple (cs cs':Array Value) (hs:cs.size=cs'.size) (h:∀ i,i<cs.size→VR φ (cs.getD i undef) (cs'.getD i undef)):VR φ (.tuple cs) (.tuple cs')
 | junk (u:Value):VR φ (.iface 0 u) u
theorem VR.undef (φ:Phi):VR φ undef undef := .tuple _ _ rfl fun i h=>by simp at h
def LR (φ:Phi) (l l':List Value):Prop:=l.length=l'.length∧∀ i,i<l.length→VR φ (l.getD i Go.undef) (l'.getD i Go.undef)
def Sub (φ φ':Phi):Prop:=∀ b x,φ b=some x→φ' b=some x
theorem Sub.refl (φ:Phi):Sub φ φ:=fun _ _ h=>h
theorem Sub.trans {a b c:Phi} (h:Sub a b) (k:Sub b c):Sub a c:=fun x y e=>k x y (h x y e)
theorem VR.mono {φ φ':Phi} (h:Sub φ φ') {v u:Value} (r:VR φ v u):VR φ' v u:=by
 induction r with
 | bool b=>exact .bool b
 | int k n=>exact .int k n
 | str s=>exact .str s
 | pnil=>exact .pnil
 | ptr o e=>exact .ptr o (h _ _ e)
 | snil n c=>exact .snil n c
 | sl o n c e=>exact .sl o n c (h _ _ e)
 | slo o o' n c c' e hh hc ho hn hv=>exact .slo o o' n c c' e (h _ _ hh) hc ho hn hv
 | mnil=>exact .mnil
 | map e=>exact .map (h _ _ e)
 | cnil=>exact .cnil
 | chan e=>exact .chan (h _ _ e)
 | func f cs cs' hs _ ih=>exact .func f cs cs' hs ih
 | nilFunc=>exact .nilFunc
 | nilIface=>exact .nilIface
 | agg cs cs' hs _ ih=>exact .agg cs cs' hs ih
 | tuple cs cs' hs _ ih=>exact .tuple cs cs' hs ih
 | junk u=>exact .junk u
theorem LR.mono {φ φ':Phi} (h:Sub φ φ') {v u:List Value} (r:LR φ v u):LR φ' v u:=⟨r.1,fun i hi=>(r.2 i hi).mono h⟩
theorem LR.nil (φ:Phi):LR φ [] []:=⟨rfl,fun i h=>by simp at h⟩
theorem LR.cons {φ:Phi} {a b:Value} {l m:List Value} (h:VR φ a b) (r:LR φ l m):LR φ (a::l) (b::m) :=
 ⟨by simp[r.1],fun i hi=>by
  cases i with
  | zero=>simpa using h
  | succ i=>simpa using r.2 i (by simpa using hi)⟩
theorem LR.head {φ:Phi} {a:Value} {l m:List Value} (h:LR φ (a::l) m):∃ b k,m=b::k∧VR φ a b∧LR φ l k:=by
 cases m with
 | nil=>have:=h.1; simp at this
 | cons b k =>
  refine ⟨b,k,rfl,by simpa using h.2 0 (by simp),by simpa using h.1,fun i hi=>?_⟩
  simpa using h.2 (i+1) (by simpa using hi)
theorem LR.append {φ:Phi} {a b c d:List Value} (h:LR φ a b) (k:LR φ c d):LR φ (a++c) (b++d):=by
 induction a generalizing b with
 | nil=>have:=h.1; cases b<;>simp_all
 | cons x a ih =>
  obtain ⟨y,b,rfl,h1,h2⟩:=h.head
  exact .cons h1 (ih h2)
theorem LR.take {φ:Phi} {a b:List Value} (n:Nat) (h:LR φ a b):LR φ (a.take n) (b.take n):=by
 induction a generalizing b n with
 | nil=>have:=h.1; cases b<;>simp_all
 | cons x a ih =>
  obtain ⟨y,b,rfl,h1,h2⟩:=h.head
  cases n with
  | zero=>exact .nil _
  | succ n=>exact .cons h1 (ih n h2)
theorem LR.drop {φ:Phi} {a b:List Value} (n:Nat) (h:LR φ a b):LR φ (a.drop n) (b.drop n):=by
 induction a generalizing b n with
 | nil=>have:=h.1; cases b<;>simp_all
 | cons x a ih =>
  obtain ⟨y,b,rfl,h1,h2⟩:=h.head
  cases n with
  | zero=>exact .cons h1 h2
  | succ n=>exact ih n h2
theorem LR.get {φ:Phi} {a b:List Value} (h:LR φ a b) {i:Nat} {v:Value} (hv:a[i]?=some v):∃ u,b[i]?=some u∧VR φ v u:=by
 obtain ⟨hi,rfl⟩:=List.getElem?_eq_some_iff.1 hv
 have hj:i<b.length:=h.1▸hi
 refine ⟨b[i],by simp[hj],?_⟩
 have:=h.2 i hi
 simpa[List.getD,hi,hj] using this
theorem LR.map {φ:Phi} {α:Type} (l:List α) (f g:α→Value) (h:∀ x∈l,VR φ (f x) (g x)):LR φ (l.map f) (l.map g):=by
 induction l with
 | nil=>exact .nil _
 | cons x l ih=>exact .cons (h x (by simp)) (ih fun y hy=>h y (by simp[hy]))
theorem VR.aH2 {φ:Phi} {l m:List Value} (h:LR φ l m):VR φ (.agg l.toArray) (.agg m.toArray) :=
 .agg _ _ (by simpa using h.1) fun i hi=>by simpa[List.getD] using h.2 i (by simpa using hi)
theorem VR.aGK {φ:Phi} {l m:List Value} (h:LR φ l m):VR φ (.tuple l.toArray) (.tuple m.toArray) :=
 .tuple _ _ (by simpa using h.1) fun i hi=>by simpa[List.getD] using h.2 i (by simpa using hi)
theorem VR.aK9 {φ:Phi} {f:Nat} {l m:List Value} (h:LR φ l m):VR φ (.func (.func f) #[] l.toArray) (.func (.func f) #[] m.toArray) :=
 .func f _ _ (by simpa using h.1) fun i hi=>by simpa[List.getD] using h.2 i (by simpa using hi)
theorem LR.aIq {φ:Phi} {cs cs':Array Value} (hs:cs.size=cs'.size) (h:∀ i,i<cs.size→VR φ (cs.getD i Go.undef) (cs'.getD i Go.undef)):LR φ cs.toList cs'.toList :=
 ⟨by simpa using hs,fun i hi=>by simpa[List.getD] using h i (by simpa using hi)⟩
theorem VR.aAO {φ:Phi} {cs:Array Value} {u:Value} (h:VR φ (.agg cs) u):∃ cs',u = .agg cs'∧LR φ cs.toList cs'.toList:=by
 cases h with
 | agg _ cs' hs h=>exact ⟨cs',rfl,.aIq hs h⟩
theorem VR.aCj {φ:Phi} {cs:Array Value} {u:Value} (h:VR φ (.tuple cs) u):∃ cs',u = .tuple cs'∧LR φ cs.toList cs'.toList:=by
 cases h with
 | tuple _ cs' hs h=>exact ⟨cs',rfl,.aIq hs h⟩
theorem VR.aE1 {φ:Phi} {f:Fn} {a cs:Array Value} {u:Value} (h:VR φ (.func f a cs) u):∃ k cs',f = .func k∧a = #[]∧u = .func (.func k) #[] cs'∧LR φ cs.toList cs'.toList:=by
 cases h with
 | func k _ cs' hs h=>exact ⟨k,cs',rfl,rfl,rfl,.aIq hs h⟩
theorem VR.cells {φ:Phi} {v u:Value} (h:VR φ v u) (hj:isJ v=false):LR φ v.cells.toList u.cells.toList:=by
 cases h with
 | agg cs cs' hs h=>exact .aIq hs h
 | bool b=>exact .cons (.bool b) (.nil _)
 | int k n=>exact .cons (.int k n) (.nil _)
 | str s=>exact .cons (.str s) (.nil _)
 | pnil=>exact .cons .pnil (.nil _)
 | ptr o e=>exact .cons (.ptr o e) (.nil _)
 | snil n c=>exact .cons (.snil n c) (.nil _)
 | sl o n c e=>exact .cons (.sl o n c e) (.nil _)
 | slo o o' n c c' e hh hc ho hn hv=>exact .cons (.slo o o' n c c' e hh hc ho hn hv) (.nil _)
 | mnil=>exact .cons .mnil (.nil _)
 | map e=>exact .cons (.map e) (.nil _)
 | cnil=>exact .cons .cnil (.nil _)
 | chan e=>exact .cons (.chan e) (.nil _)
 | func f cs cs' hs h=>exact .cons (.func f cs cs' hs h) (.nil _)
 | nilFunc=>exact .cons .nilFunc (.nil _)
 | nilIface=>exact .cons .nilIface (.nil _)
 | tuple cs cs' hs h=>exact .cons (.tuple cs cs' hs h) (.nil _)
 | junk u=>cases hj
theorem VR.one {φ:Phi} {v u:Value} (h:VR φ v u):u.oneCell'=Dx.one v:=by
 cases h<;>rfl
theorem LR.one {φ:Phi} {l m:List Value} (h:LR φ l m) (ha:l.all Dx.one=true):∀ v∈m,v.oneCell'=true:=by
 induction l generalizing m with
 | nil=>have:=h.1; cases m<;>simp_all
 | cons x l ih =>
  obtain ⟨y,m,rfl,h1,h2⟩:=h.head
  simp only[List.all_cons,Bool.and_eq_true] at ha
  intro v hv
  cases List.mem_cons.1 hv with
  | inl e=>subst e; rw[h1.one]; exact ha.1
  | inr e=>exact ih h2 ha.2 v e
def OR (φ:Phi) (w:World) (b' n:Nat):Ob→Prop
 | .cells ro c=>∃ arr elem fr,w.heap[b']?=some (.cells arr elem fr)∧arr.size=n∧c.length≤n∧LR φ c (arr.toList.take c.length) ∧
   (ro=false→fr.1=fr.2∨n≤fr.1)
 | .chan cap buf=>∃ arr s r,w.heap[b']?=some (.chan cap arr false s r false)∧LR φ buf arr.toList
 | .map es=>∃ arr clock,w.heap[b']?=some (.map arr clock)∧arr.toList.length=es.length ∧
   ∀ (i:Nat) (e:Value×Value),es[i]?=some e→∃ x:MapEntry,arr.toList[i]?=some x∧VR φ e.1 x.key∧VR φ e.2 x.val
def Hp.wrt (h:Hp) (b:Nat):Bool :=
 match h.get b with
 | some (.cells ro _) => !ro
 | some _=>true
 | none=>false
structure HR (φ:Phi) (h:Hp) (w:World):Prop where
 live:∀ b o,h.get b=some o→∃ b' n,φ b=some (b',n)∧OR φ w b' n o
 inj:∀ b c b' n m,(h.get b).isSome=true→(h.get c).isSome=true→φ b=some (b',n)→φ c=some (b',m)→b=c
 fresh:∀ b,h.next≤b→φ b=none
def Le (h h':Hp):Prop:=h.next≤h'.next∧∀ b,b<h.next→h.get b=none→h'.get b=none
theorem Le.refl (h:Hp):Le h h:=⟨Nat.le_refl _,fun _ _ h=>h⟩
theorem Le.trans {a b c:Hp} (h:Le a b) (k:Le b c):Le a c:=⟨Nat.le_trans h.1 k.1,fun x hx e=>k.2 x (Nat.lt_of_lt_of_le hx h.1) (h.2 x hx e)⟩
theorem Le.put {h:Hp} {b:Nat} {o:Option Ob} (hb:(h.get b).isSome=true∨o=none):Le h (h.put b o):=⟨Nat.le_refl _,fun x hx e=>by
 simp only[Hp.put]
 split
 ·rename_i hh
  rcases hb with hb | hb
  ·rw[← hh.1,e] at hb; cases hb
  ·exact hb
 ·exact e⟩
theorem Le.push (h:Hp) (o:Ob):Le h (h.push o):=⟨by simp[Hp.push],fun x hx e=>by
 simp only[Hp.push]
 rw[if_neg (by omega)]
 exact e⟩
theorem Le.adv (h:Hp) (k:Nat):Le h (h.adv k):=⟨by simp[Hp.adv],fun x hx e=>e⟩
structure Ext (φ:Phi) (h:Hp) (w:World) (φ':Phi) (h':Hp) (w':World):Prop where
 sub:Sub φ φ'
 hr:HR φ' h' w'
 os:w'.os=w.os
 tape:w'.tape=w.tape
 output:w'.output=w.output
 size:w.heap.size≤w'.heap.size
 frame:∀ b',b'<w.heap.size→(∀ b n,h.wrt b=true→φ b≠some (b',n))→w'.heap[b']?=w.heap[b']?
 img:∀ b b' n,(h'.get b).isSome=true→φ' b=some (b',n)→b'<w.heap.size→∃ c m,(h.get c).isSome=true∧φ c=some (b',m)∧(h'.wrt b=true→h.wrt c=true)
 old:∀ b,b<h.next→φ' b=φ b∨(φ b=none∧h.get b=none∧(h'.get b).isSome=true)
theorem Ext.refl {φ:Phi} {h:Hp} {w:World} (r:HR φ h w):Ext φ h w φ h w :=
 ⟨.refl _,r,rfl,rfl,rfl,Nat.le_refl _,fun _ _ _=>rfl,fun b _ n hb e _=>⟨b,n,hb,e,id⟩,fun _ _ => .inl rfl⟩
theorem Ext.trans {φ φ₁ φ₂:Phi} {h h₁ h₂:Hp} {w w₁ w₂:World} (hr:HR φ h w) (x:Ext φ h w φ₁ h₁ w₁) (y:Ext φ₁ h₁ w₁ φ₂ h₂ w₂) (hle:Le h h₁):Ext φ h w φ₂ h₂ w₂ where
 sub:=x.sub.trans y.sub
 hr:=y.hr
 os:=y.os.trans x.os
 tape:=y.tape.trans x.tape
 output:=y.output.trans x.output
 size:=Nat.le_trans x.size y.size
 frame b' hb hn:=by
  rw[y.frame b' (Nat.lt_of_lt_of_le hb x.size) fun b n hw he=>?_,x.frame b' hb hn]
  have hs:(h₁.get b).isSome=true:=by
   unfold Hp.wrt at hw
   cases hg:h₁.get b<;>simp_all
  obtain ⟨c,m,_,hc2,hc3⟩:=x.img b b' n hs he hb
  exact hn c m (hc3 hw) hc2
 img b b' n hs he hb:=by
  obtain ⟨c,m,h1,h2,h3⟩:=y.img b b' n hs he (Nat.lt_of_lt_of_le hb x.size)
  obtain ⟨d,k,g1,g2,g3⟩:=x.img c b' m h1 h2 hb
  exact ⟨d,k,g1,g2,fun e=>g3 (h3 e)⟩
 old b hb:=by
  rcases x.old b hb with h1 | ⟨_,h1,h2⟩
  ·rcases y.old b (Nat.lt_of_lt_of_le hb hle.1) with h3 | ⟨h3,h4,h5⟩
   ·exact .inl (h3.trans h1)
   ·by_cases hg:h.get b=none
    ·exact .inr ⟨h1▸h3,hg,h5⟩
    ·obtain ⟨o,ho⟩:=Option.ne_none_iff_exists'.1 hg
     obtain ⟨b',n,h6,_⟩:=hr.live b o ho
     rw[h1,h6] at h3; cases h3
  ·rw[hle.2 b hb h1] at h2; cases h2
theorem Ext.drew {φ φ':Phi} {h h':Hp} {w w':World} {n:Nat} (x:Ext φ h { w with drawn:=n } φ' h' w'):Ext φ h w φ' h' w' :=
 ⟨x.sub,x.hr,x.os,x.tape,x.output,x.size,x.frame,x.img,x.old⟩
theorem OR.mono {φ φ':Phi} (h:Sub φ φ') {w w':World} {b' n:Nat} {o:Ob} (hw:w'.heap[b']?=w.heap[b']?) (r:OR φ w b' n o):OR φ' w' b' n o:=by
 cases o with
 | cells ro c =>
  obtain ⟨arr,elem,fr,h1,h2,h3,h4,h5⟩:=r
  exact ⟨arr,elem,fr,hw.trans h1,h2,h3,h4.mono h,h5⟩
 | chan cap buf =>
  obtain ⟨arr,s,r,h1,h2⟩:=r
  exact ⟨arr,s,r,hw.trans h1,h2.mono h⟩
 | map es =>
  obtain ⟨arr,clock,h1,h2,h3⟩:=r
  exact ⟨arr,clock,hw.trans h1,h2,fun i e he=>let ⟨x,a,b,c⟩:=h3 i e he; ⟨x,a,b.mono h,c.mono h⟩⟩
theorem OR.lt {φ:Phi} {w:World} {b' n:Nat} {o:Ob} (r:OR φ w b' n o):b'<w.heap.size:=by
 have:∃ x,w.heap[b']?=some x:=by
  cases o with
  | cells ro c=>obtain ⟨arr,elem,fr,h1,_⟩:=r; exact ⟨_,h1⟩
  | chan cap buf=>obtain ⟨arr,s,r,h1,_⟩:=r; exact ⟨_,h1⟩
  | map es=>obtain ⟨arr,clock,h1,_⟩:=r; exact ⟨_,h1⟩
 obtain ⟨x,hx⟩:=this
 exact (Array.getElem?_eq_some_iff.1 hx).1
theorem HR.drew {φ:Phi} {h:Hp} {w:World} (r:HR φ h w) (n:Nat):HR φ h { w with drawn:=n }:=⟨r.live,r.inj,r.fresh⟩
theorem HR.less {φ:Phi} {h g:Hp} {w:World} (r:HR φ h w) (hn:h.next≤g.next) (hg:∀ b o,g.get b=some o→h.get b=some o):HR φ g w where
 live b o hb:=r.live b o (hg b o hb)
 inj b c b' n m hb hc:=by
  obtain ⟨x,hx⟩:=Option.isSome_iff_exists.1 hb
  obtain ⟨y,hy⟩:=Option.isSome_iff_exists.1 hc
  exact r.inj b c b' n m (by simp[hg b x hx]) (by simp[hg c y hy])
 fresh b hb:=r.fresh b (Nat.le_trans hn hb)
theorem Ext.less {φ φ':Phi} {h h' g:Hp} {w w':World} (x:Ext φ h w φ' h' w') (hn:h'.next≤g.next) (hg:∀ b o,g.get b=some o→h'.get b=some o) (hle:Le h h') :
  Ext φ h w φ' g w' where
 sub:=x.sub
 hr:=x.hr.less hn hg
 os:=x.os
 tape:=x.tape
 output:=x.output
 size:=x.size
 frame:=x.frame
 img b b' n hs he hb:=by
  obtain ⟨o,ho⟩:=Option.isSome_iff_exists.1 hs
  obtain ⟨c,m,h1,h2,h3⟩:=x.img b b' n (by simp[hg b o ho]) he hb
  refine ⟨c,m,h1,h2,fun hw=>h3 ?_⟩
  unfold Hp.wrt at hw ⊢
  rw[hg b o ho]
  rw[ho] at hw
  exact hw
 old b hb:=(x.old b hb).imp id fun ⟨_,h1,h2⟩=>by rw[hle.2 b hb h1] at h2; cases h2
theorem Ext.still {φ φ':Phi} {h h':Hp} {w w':World} (x:Ext φ h w φ' h' w') (hle:Le h h') {b:Nat} (hb:b<h.next):φ' b=φ b :=
 (x.old b hb).resolve_right fun ⟨_,h1,h2⟩=>by rw[hle.2 b hb h1] at h2; cases h2
def ups (φ:Phi) (b:Nat) (x:Nat×Nat):Phi:=fun c=>if c=b then some x else φ c
inductive Slot (φ:Phi) (h:Hp):Nat→(Ob→Hp)→Prop where
 | next:Slot φ h h.next h.push
 | held (id:Nat) (hlt:id<h.next) (hg:h.get id=none) (hφ:φ id=none):Slot φ h id fun o=>h.put id (some o)
theorem Slot.phi {φ:Phi} {h:Hp} {w:World} {id:Nat} {fill:Ob→Hp} (s:Slot φ h id fill) (r:HR φ h w):φ id=none:=by
 cases s with
 | next=>exact r.fresh _ (Nat.le_refl _)
 | held _ _ _ hφ=>exact hφ
theorem Slot.none {φ:Phi} {h:Hp} {id:Nat} {fill:Ob→Hp} (s:Slot φ h id fill):h.get id=none:=by
 cases s with
 | next=>exact h.wf _ (Nat.le_refl _)
 | held _ _ hg _=>exact hg
theorem Slot.get {φ:Phi} {h:Hp} {id:Nat} {fill:Ob→Hp} (s:Slot φ h id fill) (o:Ob) (b:Nat):(fill o).get b=if b=id then some o else h.get b:=by
 cases s with
 | next=>rfl
 | held _ hlt _ _=>simp[Hp.put,hlt]
theorem Slot.le {φ:Phi} {h:Hp} {id:Nat} {fill:Ob→Hp} (s:Slot φ h id fill) (o:Ob):id<(fill o).next∧h.next≤(fill o).next:=by
 cases s with
 | next=>simp[Hp.push]
 | held _ hlt _ _=>exact ⟨hlt,Nat.le_refl _⟩
theorem Ext.alloc {φ:Phi} {h:Hp} {w w':World} {id:Nat} {fill:Ob→Hp} (s:Slot φ h id fill) (r:HR φ h w) (o:Ob) (ob:Obj) (n:Nat)
  (hw:w'.heap=w.heap.push ob) (hos:w'.os=w.os) (ht:w'.tape=w.tape) (ho:w'.output=w.output)
  (hr:OR (ups φ id (w.heap.size,n)) w' w.heap.size n o) :
  Ext φ h w (ups φ id (w.heap.size,n)) (fill o) w':=by
 have hsub:Sub φ (ups φ id (w.heap.size,n)):=fun b x hb=>by
  unfold ups
  split
  ·rename_i e; subst e; rw[s.phi r] at hb; cases hb
  ·exact hb
 have hold:∀ k,k<w.heap.size→w'.heap[k]?=w.heap[k]?:=fun k hk=>by
  rw[hw,Array.getElem?_push,if_neg (by omega)]
 refine ⟨hsub,⟨?_,?_,?_⟩,hos,ht,ho,by rw[hw]; simp,fun b' hb _=>hold b' hb,?_,fun b hb=>?_⟩
 ·intro b x hb
  rw[s.get] at hb
  split at hb
  ·rename_i e
   subst e
   cases hb
   exact ⟨w.heap.size,n,by simp[ups],hr⟩
  ·rename_i e
   obtain ⟨b',m,h1,h2⟩:=r.live b x hb
   exact ⟨b',m,by simp[ups,e,h1],h2.mono hsub (hold b' h2.lt)⟩
 ·intro b c b' k m hb hc h1 h2
  rw[s.get] at hb hc
  by_cases e1:b=id<;>by_cases e2:c=id
  ·rw[e1,e2]
  ·simp only[ups,e1,if_true,e2,if_false] at h1 h2 hc
   obtain ⟨y,hy⟩:=Option.isSome_iff_exists.1 hc
   obtain ⟨c',q,g1,g2⟩:=r.live c y hy
   have:=g2.lt
   simp_all
  ·simp only[ups,e1,if_true,e2,if_false] at h1 h2 hb
   obtain ⟨y,hy⟩:=Option.isSome_iff_exists.1 hb
   obtain ⟨c',q,g1,g2⟩:=r.live b y hy
   have:=g2.lt
   simp_all
  ·simp only[ups,e1,e2,if_false] at h1 h2 hb hc
   exact r.inj b c b' k m hb hc h1 h2
 ·intro b hb
  have hl:=s.le o
  simp only[ups]
  rw[if_neg (by omega)]
  exact r.fresh b (by omega)
 ·intro b b' m hb he hlt
  by_cases e:b=id
  ·simp only[ups,e,if_true] at he
   simp at he
   omega
  ·simp only[ups,e,if_false] at he
   rw[s.get,if_neg e] at hb
   refine ⟨b,m,hb,he,fun hw=>?_⟩
   unfold Hp.wrt at hw ⊢
   rw[s.get,if_neg e] at hw
   exact hw
 ·by_cases e:b=id
  ·subst e
   exact .inr ⟨s.phi r,s.none,by rw[s.get,if_pos rfl]; rfl⟩
  ·exact .inl (by simp[ups,e])
theorem Ext.set {φ:Phi} {h:Hp} {w w':World} (r:HR φ h w) {b b' n:Nat} {o o':Ob} {x':Obj} (hb:h.get b=some o) (hwr:h.wrt b=true) (hφ:φ b=some (b',n))
  (hw:w'.heap=w.heap.setIfInBounds b' x') (hos:w'.os=w.os) (ht:w'.tape=w.tape) (ho:w'.output=w.output)
  (hr:OR φ w' b' n o'):Ext φ h w φ (h.put b (some o')) w':=by
 have hlt:b<h.next:=by
  rcases Nat.lt_or_ge b h.next with hl | hl
  ·exact hl
  ·rw[h.wf b hl] at hb; cases hb
 have hold:∀ k,k≠b'→w'.heap[k]?=w.heap[k]?:=fun k hk=>by
  rw[hw,Array.getElem?_setIfInBounds_ne (Ne.symm hk)]
 refine ⟨.refl _,⟨?_,?_,?_⟩,hos,ht,ho,by rw[hw]; simp,fun c hc hn=>hold c fun e=>?_,?_,fun _ _ => .inl rfl⟩
 ·intro c y hc
  simp only[Hp.put] at hc
  split at hc
  ·rename_i e
   obtain ⟨e,_⟩:=e
   subst e
   cases hc
   exact ⟨b',n,hφ,hr⟩
  ·rename_i e
   obtain ⟨c',m,h1,h2⟩:=r.live c y hc
   refine ⟨c',m,h1,h2.mono (.refl _) (hold c' fun e'=>e ⟨?_,hlt⟩)⟩
   subst e'
   exact r.inj c b c' m n (by simp[hc]) (by simp[hb]) h1 hφ
 ·intro c d c' k m hc hd h1 h2
  have fix:∀ c,((h.put b (some o')).get c).isSome=true→(h.get c).isSome=true:=fun c hc=>by
   simp only[Hp.put] at hc
   split at hc
   ·rename_i e; rw[e.1,hb]; rfl
   ·exact hc
  exact r.inj c d c' k m (fix c hc) (fix d hd) h1 h2
 ·exact fun c hc=>r.fresh c hc
 ·subst e
  exact hn b n hwr hφ
 ·intro c c' m hc he _
  simp only[Hp.put] at hc
  by_cases e:c=b
  ·subst e
   exact ⟨c,m,by simp[hb],he,fun _=>hwr⟩
  ·refine ⟨c,m,?_,he,fun hw=>?_⟩
   ·simpa[e] using hc
   ·unfold Hp.wrt at hw ⊢
    simpa[Hp.put,e] using hw
theorem aBA (b:Nat) (arr:Array Value) (elem:TypeId) (fr:Nat×Nat):∀ (vs:List Value) (o:Nat) (w:World),w.heap[b]?=some (.cells arr elem fr)→o+vs.length≤arr.size →
  (w.setCells b o vs).heap=w.heap.setIfInBounds b (.cells (arr.toList.take o++vs++arr.toList.drop (o+vs.length)).toArray elem fr) ∧
  (w.setCells b o vs).os=w.os∧(w.setCells b o vs).tape=w.tape∧(w.setCells b o vs).output=w.output:=by
 intro vs
 induction vs generalizing arr with
 | nil =>
  intro o w h _
  refine ⟨?_,rfl,rfl,rfl⟩
  simp only[World.setCells,List.length_nil,Nat.add_zero,List.append_nil,List.take_append_drop,Array.toArray_toList]
  apply Array.ext'
  apply List.ext_getElem?
  intro i
  simp only[Array.getElem?_toList,Array.getElem?_setIfInBounds]
  split
  ·rename_i e; subst e
   split
   ·exact h
   ·rename_i hh; exact Array.getElem?_eq_none (by omega)
  ·rfl
 | cons v vs ih =>
  intro o w h hs
  simp only[List.length_cons] at hs
  have h1:(w.setCell ⟨b,o,none⟩ v).heap=w.heap.setIfInBounds b (.cells (arr.setIfInBounds o v) elem fr):=by
   simp only[World.setCell,Option.isSome_none,Bool.false_eq_true,if_false]
   apply Array.ext'
   apply List.ext_getElem?
   intro i
   simp only[Array.getElem?_toList,Array.getElem?_setIfInBounds,Array.getElem?_modify]
   by_cases e:b=i
   ·subst e
    obtain ⟨hlt,he⟩:=Array.getElem?_eq_some_iff.1 h
    simp[he,hlt]
   ·simp[e]
  have hlt:=(Array.getElem?_eq_some_iff.1 h).1
  have hg:(w.setCell ⟨b,o,none⟩ v).heap[b]?=some (.cells (arr.setIfInBounds o v) elem fr):=by
   rw[h1]; simp[hlt]
  obtain ⟨k1,k2,k3,k4⟩:=ih (arr.setIfInBounds o v) (o+1) (w.setCell ⟨b,o,none⟩ v) hg (by simp; omega)
  simp only[World.setCells]
  refine ⟨?_,k2,k3,k4⟩
  rw[k1,h1,Array.setIfInBounds_setIfInBounds]
  congr 2
  have ho:o<arr.toList.length:=by simpa using by omega
  simp only[Array.toList_setIfInBounds,List.length_cons]
  rw[List.take_set,List.take_add_one,List.drop_set]
  have e1:(arr.toList.take o++arr.toList[o]?.toList).set o v=arr.toList.take o++[v]:=by
   rw[List.getElem?_eq_getElem ho,List.set_append_right _ _ (by simp; omega)]
   have:o-(arr.toList.take o).length=0:=by simp; omega
   rw[this]
   rfl
  rw[e1,if_pos (by omega),show o+1+vs.length=o+(vs.length+1) by omega]
  simp
theorem HR.get {φ:Phi} {h:Hp} {w:World} (r:HR φ h w) {b b' n:Nat} {o:Ob} (hb:h.get b=some o) (hφ:φ b=some (b',n)):OR φ w b' n o:=by
 obtain ⟨c,m,h1,h2⟩:=r.live b o hb
 rw[hφ] at h1
 cases h1
 exact h2
theorem aB2 {h:Hp} {b:Nat} {c:List Value} (hb:h.cells b=some c):∃ ro,h.get b=some (.cells ro c):=by
 unfold Hp.cells at hb
 split at hb
 ·rename_i ro c' e; cases hb; exact ⟨ro,e⟩
 ·cases hb
theorem HR.rdn {φ:Phi} {h:Hp} {w:World} {P:Program} (r:HR φ h w) {b b' m o n:Nat} {vs:List Value} (hr:h.rdn b o n=some vs) (hφ:φ b=some (b',m)) :
  ∃ us,(∀ w':World,w'.heap=w.heap→(loadCells ⟨b',o,none⟩ n).run P w' = .ok us.toArray w')∧LR φ vs us∧vs.length=n∧o+n≤m:=by
 unfold Hp.rdn at hr
 obtain ⟨c,hc,hr⟩:=Option.bind_eq_some_iff.1 hr
 split at hr
 case isFalse=>cases hr
 rename_i hle
 cases hr
 obtain ⟨ro,hg⟩:=aB2 hc
 obtain ⟨arr,elem,fr,h1,h2,h3,h4,_⟩:=r.get hg hφ
 refine ⟨((arr.toList.take c.length).drop o).take n,fun w' hh=>?_,(h4.drop o).take n,by simp; omega,by omega⟩
 have hl:(((arr.toList.take c.length).drop o).take n).length=n:=by simp; omega
 conv=>lhs; rw[← hl]
 refine run_loadCells_list w' _ _ fun j v hj=>?_
 have hj':j<n:=by
  rcases Nat.lt_or_ge j n with hh | hh
  ·exact hh
  ·rw[List.getElem?_eq_none (by omega)] at hj; cases hj
 have e:(⟨b',o,none⟩:Addr).add j=⟨b',o+j,none⟩:=by unfold Addr.add; split<;>simp_all
 rw[e]
 simp only[World.cell?,hh,h1,Option.isSome_none,Bool.false_eq_true,if_false]
 rw[List.getElem?_take_of_lt hj',List.getElem?_drop,List.getElem?_take_of_lt (by omega),Array.getElem?_toList] at hj
 exact hj
theorem HR.rd {φ:Phi} {h:Hp} {w:World} (r:HR φ h w) {b b' m o:Nat} {v:Value} (hr:h.rd b o=some v) (hφ:φ b=some (b',m)) :
  ∃ u,w.cell? ⟨b',o,none⟩=some u∧VR φ v u:=by
 unfold Hp.rd at hr
 obtain ⟨c,hc,hr⟩:=Option.bind_eq_some_iff.1 hr
 obtain ⟨ro,hg⟩:=aB2 hc
 obtain ⟨arr,elem,fr,h1,h2,h3,h4,_⟩:=r.get hg hφ
 obtain ⟨u,hu,hv⟩:=h4.get hr
 refine ⟨u,?_,hv⟩
 simp only[World.cell?,h1,Option.isSome_none,Bool.false_eq_true,if_false]
 have:o<c.length:=(List.getElem?_eq_some_iff.1 hr).1
 rw[List.getElem?_take_of_lt this,Array.getElem?_toList] at hu
 exact hu
theorem aB7 {c vs:List Value} {o:Nat} (h:o+vs.length≤c.length):(over c o vs).length=c.length:=by
 simp[over]; omega
theorem HR.wr {φ:Phi} {h h':Hp} {w:World} {P:Program} (r:HR φ h w) {b b' m o:Nat} {vs us:List Value} (hr:h.wr b o vs=some h') (hφ:φ b=some (b',m)) (hl:LR φ vs us) :
  ∃ w',(storeCells ⟨b',o,none⟩ us).run P w = .ok () w'∧Ext φ h w φ h' w':=by
 unfold Hp.wr at hr
 split at hr
 case h_2=>cases hr
 rename_i c hg
 split at hr
 case isFalse=>cases hr
 rename_i hle
 obtain ⟨hle,hone⟩:=hle
 cases hr
 obtain ⟨arr,elem,fr,h1,h2,h3,h4,h5⟩:=r.get hg hφ
 have hlen:=hl.1
 refine ⟨w.setCells b' o us,?_,?_⟩
 ·have:=run_storeCells_cells (P:=P) b' o us 0 w (fun j hj=>?_) (fun j hj=>?_) (hl.one hone)
  ·simpa using this
  ·simp only[World.cell?,h1,Option.isSome_none,Bool.false_eq_true,if_false,Nat.add_zero]
   rw[Array.getElem?_eq_getElem (by omega)]
   rfl
  ·have:=h5 rfl
   simp only[World.frozen?,h1]
   simp only[Bool.and_eq_false_iff,decide_eq_false_iff_not]
   omega
 ·obtain ⟨k1,k2,k3,k4⟩:=aBA b' arr elem fr us o w h1 (by omega)
  refine Ext.set r hg (by simp[Hp.wrt,hg]) hφ k1 k2 k3 k4 ?_
  have hlt:=(Array.getElem?_eq_some_iff.1 h1).1
  refine ⟨(arr.toList.take o++us++arr.toList.drop (o+us.length)).toArray,elem,fr,by rw[k1,Array.getElem?_setIfInBounds_self_of_lt hlt],?_,by rw[aB7 hle]; exact h3,?_,h5⟩
  ·have:arr.toList.length=m:=by simpa using h2
   simp only[List.size_toArray,List.length_append,List.length_take,List.length_drop]
   omega
  rw[aB7 hle]
  have e:(arr.toList.take o++us++arr.toList.drop (o+us.length)).take c.length=(arr.toList.take c.length).take o++us++(arr.toList.take c.length).drop (o+vs.length):=by
   have hal:arr.toList.length=m:=by simpa using h2
   have e1:(arr.toList.take o).length=o:=by rw[List.length_take]; omega
   rw[List.take_append,List.take_append,List.take_take,List.drop_take,List.take_take,List.length_append,e1,
    List.take_of_length_le (i:=c.length-o) (l:=us) (by omega),Nat.min_comm,hlen]
  rw[e]
  exact ((h4.take o).append hl).append (h4.drop _)
def evs (e:Env) (l:List X):List Value:=l.map (·.ev e)
def evp (e:Env) (l:List (Nat×Nat×X)):List (Nat×Nat×Value):=l.map fun p=>(p.1,p.2.1,p.2.2.ev e)
def at?:Value→Option (Nat×Nat)
 | .pointer (some ⟨b,o,none⟩)=>some (b,o)
 | _=>none
def ptr (b o:Nat):Value := .pointer (some ⟨b,o,none⟩)
def aAV (n:Nat) (i:Value):Option Nat :=
 match i with
 | .int _ k=>if 0≤k∧k<n then some k.toNat else none
 | _=>none
def aGp (id:Nat) (zero:List Value) (bytes:Nat) (l c:Value):Option (Value×Ob) :=
 match l,c with
 | .int _ l,.int _ c =>
  if 0≤l∧l≤c∧bytes*c≤2^47∧c<2^62 then
   some (.slice (some ⟨id,0,none⟩) l.toNat c.toNat,.cells false (List.replicate c.toNat zero).flatten)
  else none
 | _,_=>none
def aLs:Value→Value→Bool
 | .bool a,.bool b=>a == b
 | .int j a,.int k b=>j == k&&a == b
 | .string a,.string b=>a == b
 | _,_=>false
def aFM:List Value→List Value→Bool
 | [],[]=>true
 | a::l,b::m=>aLs a b&&aFM l m
 | _,_=>false
def aLg:Value→Value→Bool
 | .agg a,.agg b=>aFM a.toList b.toList
 | _,_=>false
def opA (id:Nat) (e:Env):Op→Option (Value×Ob)
 | .new zero=>some (ptr id 0,.cells false zero)
 | .box x=>if isJ (x.ev e)=true then none else some (ptr id 0,.cells false (x.ev e).cells.toList)
 | .bsl n zero ps=>(aAt zero (evp e ps)).map fun c=>(.slice (some ⟨id,0,none⟩) n n,.cells false c)
 | .mkm=>some (.map (some id),.map [])
 | .mkc bytes x=>match x.ev e with
  | .int _ n=>if 0≤n∧n≤IntKind.i64.max∧bytes*n≤2^47 then some (.chan (some id),.chan n.toNat []) else none
  | _=>none
 | .mks zero bytes l c=>aGp id zero bytes (l.ev e) (c.ev e)
 | _=>none
def isA:Op→Bool
 | .new .. | .box .. | .bsl .. | .mkm | .mkc .. | .mks .. => true
 | _=>false
def aN2 (ok:Bool) (z:Value):Option (Nat×Value)→Value
 | some (_,v)=>if ok then .tuple #[v,.bool true] else v
 | none=>if ok then .tuple #[z,.bool false] else z
def opV (e:Env) (h:Hp):Op→Option (Value×Hp)
 | .mov x=>some (x.ev e,h)
 | .pick c a b=>match c.ev e with
  | .bool t=>some (if t then a.ev e else b.ev e,h)
  | _=>none
 | .new zero=>(opA h.next e (.new zero)).map fun r=>(r.1,h.push r.2)
 | .box x=>(opA h.next e (.box x)).map fun r=>(r.1,h.push r.2)
 | .build zero ps=>(aAt zero (evp e ps)).map fun c=>(.agg c.toArray,h)
 | .bsl n zero ps=>(opA h.next e (.bsl n zero ps)).map fun r=>(r.1,h.push r.2)
 | .ld x=>(at? (x.ev e)).bind fun p=>(h.rd p.1 p.2).map fun v=>(v,h)
 | .ldn n x=>(at? (x.ev e)).bind fun p=>(h.rdn p.1 p.2 n).map fun c=>(.agg c.toArray,h)
 | .st a x=>(at? (a.ev e)).bind fun p=>if one (x.ev e)=true then (h.wr p.1 p.2 [x.ev e]).map fun h=>(undef,h) else none
 | .stn n a x=>(at? (a.ev e)).bind fun p=>match x.ev e with
  | .agg cs=>if cs.size=n then (h.wr p.1 p.2 cs.toList).map fun h=>(undef,h) else none
  | _=>none
 | .nilc x=>match x.ev e with
  | .pointer (some a)=>some (.pointer (some a),h)
  | .func (.func f) a b=>some (.func (.func f) a b,h)
  | _=>none
 | .bin op x y=>(aG op (x.ev e) (y.ev e)).map fun v=>(v,h)
 | .eqb neg x y=>match x.ev e,y.ev e with
  | .bool a,.bool b=>some (.bool ((a == b) != neg),h)
  | _,_=>none
 | .eqn kd neg x=>(isNil kd (x.ev e)).map fun b=>(.bool (b != neg),h)
 | .eqt neg t x y=>(eqV t (x.ev e) (y.ev e)).map fun b=>(.bool (b != neg),h)
 | .un op x=>(unV op (x.ev e)).map fun v=>(v,h)
 | .conv k x=>match x.ev e with
  | .int _ n=>some (.int k (k.wrap n),h)
  | _=>none
 | .b2s x=>match x.ev e with
  | .slice none _ _=>some (.string .empty,h)
  | .slice (some a) n _=>((if n=0 then some [] else h.rdn a.block a.off n).bind fun c=>c.mapM fun | .int .u8 n=>some (UInt8.ofNat n.toNat) | _=>none).map fun l=>(.string ⟨l.toArray⟩,h)
  | _=>none
 | .s2b x=>match x.ev e with
  | .string s=>some (.slice (some ⟨h.next,0,some 1⟩) s.size s.size,h.push (.cells false (s.data.toList.map fun b => .int .u8 b.toNat)))
  | _=>none
 | .ms x=>match x.ev e with
  | .slice (some ⟨b,o,none⟩) n c=>(match h.get b with | some (.cells false _)=>some (.slice (some ⟨b,o,none⟩) n c,h) | _=>none)
  | _=>none
 | .mkf f caps=>some (.func (.func f) #[] (evs e caps).toArray,h)
 | .mkm=>(opA h.next e .mkm).map fun r=>(r.1,h.push r.2)
 | .mkc bytes x=>(opA h.next e (.mkc bytes x)).map fun r=>(r.1,h.push r.2)
 | .mks zero bytes l c=>(opA h.next e (.mks zero bytes l c)).map fun r=>(r.1,h.push r.2)
 | .sls x lo hi=>match x.ev e with
  | .string s=>(bounds s.size s.size (lo.map (·.ev e)) (hi.map (·.ev e)) none).map fun b=>(.string (s.extract b.1 b.2.1),h)
  | _=>none
 | .sl sz x lo hi mx=>(aA3 sz (x.ev e) (lo.map (·.ev e)) (hi.map (·.ev e)) (mx.map (·.ev e))).map fun v=>(v,h)
 | .sla n sz x lo hi mx=>(at? (x.ev e)).bind fun p=>(bounds n n (lo.map (·.ev e)) (hi.map (·.ev e)) (mx.map (·.ev e))).map fun b =>
   (.slice (some (if b.2.2=b.1 then ⟨p.1,p.2,none⟩ else ⟨p.1,p.2+b.1*sz,none⟩)) (b.2.1-b.1) (b.2.2-b.1),h)
 | .fa off x=>(at? (x.ev e)).map fun p=>(ptr p.1 (p.2+off),h)
 | .fld off x=>match x.ev e with
  | .agg cs=>(cs.toList[off]?).map fun v=>(v,h)
  | _=>none
 | .fldn off n x=>match x.ev e with
  | .agg cs=>if off+n≤cs.size then some (.agg ((cs.toList.drop off).take n).toArray,h) else none
  | _=>none
 | .ia sz x i=>match x.ev e with
  | .slice (some a) n _=>(aAV n (i.ev e)).map fun k=>(ptr a.block (a.off+k*sz),h)
  | _=>none
 | .iaa n sz x i=>(at? (x.ev e)).bind fun p=>(aAV n (i.ev e)).map fun k=>(ptr p.1 (p.2+k*sz),h)
 | .ixs x i=>match x.ev e with
  | .string s=>(aAV s.size (i.ev e)).bind fun k=>(s.data.toList[k]?).map fun b=>(.int .u8 b.toNat,h)
  | _=>none
 | .ixa n x i=>match x.ev e with
  | .agg cs=>(aAV n (i.ev e)).bind fun k=>(cs.toList[k]?).map fun v=>(v,h)
  | _=>none
 | .ixan n sz x i=>match x.ev e with
  | .agg cs=>(aAV n (i.ev e)).bind fun k=>if k*sz+sz≤cs.size then some (.agg ((cs.toList.drop (k*sz)).take sz).toArray,h) else none
  | _=>none
 | .look t zero ok m k =>
  match (match m.ev e with | .map none=>some [] | .map (some r)=>(match h.get r with | some (.map es)=>some es | _=>none) | _=>none) with
  | none=>none
  | some es=>(if (eqV t (k.ev e) (k.ev e)).isSome then find t (k.ev e) es 0 else none).map fun r=>(aN2 ok zero r,h)
 | .mset t m k v=>match m.ev e with
  | .map (some r)=>match h.get r with
   | some (.map es)=>if (eqV t (k.ev e) (k.ev e)).isSome then match find t (k.ev e) es 0 with
     | some (some (i,_))=>match es[i]? with
      | some x=>if aLg (k.ev e) x.1 then some (undef,h.put r (some (.map (es.set i (k.ev e,v.ev e))))) else none
      | none=>none
     | some none=>some (undef,h.put r (some (.map (es++[(k.ev e,v.ev e)]))))
     | none=>none
    else none
   | _=>none
  | _=>none
 | .ext x i=>match x.ev e with
  | .tuple vs=>(vs.toList[i]?).map fun v=>(v,h)
  | _=>none
 | .len kd x=>match kd,x.ev e with
  | 1,.slice _ n _=>some (goInt n,h)
  | 0,.string s=>some (goInt s.size,h)
  | 2,.map none=>some (goInt 0,h)
  | 2,.map (some r)=>(match h.get r with | some (.map es)=>some (goInt es.length,h) | _=>none)
  | 3,.chan (some r)=>(match h.get r with | some (.chan _ buf)=>some (goInt buf.length,h) | _=>none)
  | _,_=>none
 | .lenk n=>some (goInt n,h)
 | .app sz bytes x y=>aAI h sz bytes (x.ev e) (y.ev e)
 | .cpy sz x y=>copyV h sz (x.ev e) (y.ev e)
 | .del t m k=>match m.ev e with
  | .map (some r)=>match h.get r with
   | some (.map es)=>if (eqV t (k.ev e) (k.ev e)).isSome then (find t (k.ev e) es 0).map fun p =>
     (.tuple #[],match p with
      | some (i,_)=>h.put r (some (.map (es.eraseIdx i)))
      | none=>h) else none
   | _=>none
  | _=>none
 | .clrm x=>match x.ev e with
  | .map (some r)=>match h.get r with
   | some (.map _)=>some (.tuple #[],h.put r (some (.map [])))
   | _=>none
  | _=>none
 | .clr zero x=>match x.ev e with
  | .slice none _ _=>some (.tuple #[],h)
  | .slice (some a) n _=>if n=0 then some (.tuple #[],h) else (h.wr a.block a.off (List.replicate n zero).flatten).map fun h=>(.tuple #[],h)
  | _=>none
 | .mx x y=>match x.ev e,y.ev e with
  | .int k a,.int j b=>if k=j then some (.int k (if b>a then b else a),h) else none
  | _,_=>none
 | .mn x y=>match x.ev e,y.ev e with
  | .int k a,.int j b=>if k=j then some (.int k (if b<a then b else a),h) else none
  | _,_=>none
 | .call .. | .bC .. => none
def ground:Value→Bool
 | .bool _ | .int .. | .string _ | .pointer none | .slice none _ _ | .map none | .chan none | .nilFunc | .nilIface=>true
 | _=>false
def cx:Operand→Option X
 | .tmp t=>some (.t t)
 | .const v=>if ground v then some (.c v) else none
 | .func f=>some (.f f)
 | .global _=>none
def cxs (l:List Operand):Option (List X):=l.mapM cx
def cxo:Option Operand→Option (Option X)
 | none=>some none
 | some x=>(cx x).map some
section
variable (P:Program)
def aT (t:TypeId):Option Bool:=(P.underlying t).map fun
 | .struct _ | .array .. => true
 | _=>false
def aBz:Nat→TypeId→Option Ty
 | 0,_=>none
 | n+1,t=>match P.underlying t with
  | some .bool=>some .bool
  | some (.int k)=>some (.int k)
  | some .string=>some .str
  | some (.struct fs) =>
   if P.stoodInHeld t then none else
   (fs.toList.mapM fun f=>if f.name = "_" then none else (aT P f.type).bind fun a=>(aBz n f.type).map fun ty=>(f.offset,P.cellsOf f.type,a,ty)).map .agg
  | some (.array len e) =>
   (aT P e).bind fun a=>(aBz n e).map fun ty => .agg ((List.range len).map fun i=>(i*P.cellsOf e,P.cellsOf e,a,ty))
  | _=>none
def zeroOf (t:TypeId):Option (List Value) :=
 match (P.info? t).bind (·.zero) with
 | some v=>if v.cells.toList.all ground then some v.cells.toList else none
 | none=>none
def place (fs:Array Field) (i:Nat):Option (Nat×Nat):=(fs[i]?).bind fun f=>(P.info? f.type).map fun t=>(f.offset,t.size)
def aBE (pl:Nat→Option (Nat×Nat)) (l:List (Nat×Operand)):Option (List (Nat×Nat×X)) :=
 l.mapM fun p=>(pl p.1).bind fun q=>(cx p.2).map fun x=>(q.1,q.2,x)
def aAs:Nat→Operand→Bool
 | 0,.const (.pointer none) | 1,.const (.slice none _ _) | 2,.const (.map none) | 3,.const .nilFunc=>true
 | _,_=>false
def kindOf:TypeDesc→Option Nat
 | .pointer _=>some 0
 | .slice _=>some 1
 | .map .. => some 2
 | .func .. => some 3
 | _=>none
def aDg (op:BinOp) (t:TypeId) (x y:Operand):Option Op :=
 match P.underlying t with
 | some (.int _) | some .string=>(cx x).bind fun a=>(cx y).map fun b => .bin op a b
 | some .bool =>
  match op with
  | .eql=>(cx x).bind fun a=>(cx y).map fun b => .eqb false a b
  | .neq=>(cx x).bind fun a=>(cx y).map fun b => .eqb true a b
  | _=>none
 | some (.struct _) | some (.array ..) =>
  if P.eqGuardType P.depth t then none else
  match op with
  | .eql=>(aBz P 20 t).bind fun ty=>(cx x).bind fun a=>(cx y).map fun b => .eqt false ty a b
  | .neq=>(aBz P 20 t).bind fun ty=>(cx x).bind fun a=>(cx y).map fun b => .eqt true ty a b
  | _=>none
 | some d=>(kindOf d).bind fun kd =>
  match op with
  | .eql=>if aAs kd y then (cx x).map (.eqn kd false) else if aAs kd x then (cx y).map (.eqn kd false) else none
  | .neq=>if aAs kd y then (cx x).map (.eqn kd true) else if aAs kd x then (cx y).map (.eqn kd true) else none
  | _=>none
 | none=>none
def aCL (src dst:TypeId) (x:Operand):Option Op :=
 match P.underlying src,P.underlying dst with
 | some (.int _),some (.int k)=>(cx x).map (.conv k)
 | some (.slice e),some .string=>match P.underlying e with
  | some (.int .u8)=>(cx x).map .b2s
  | _=>none
 | some .string,some (.slice e)=>match P.underlying e with
  | some (.int .u8)=>(cx x).map .s2b
  | _=>none
 | some (.slice _),some (.slice e)=>if src=dst then match P.underlying e with
  | some (.int .u8)=>(cx x).map .ms
  | _=>none else none
 | _,_=>none
def aJs:Ty→Bool
 | .agg ps=>ps.all fun p => !p.2.2.1
 | _=>false
def aCd (kt:TypeId):Option Ty:=(aBz P 20 kt).bind fun ty=>if aJs ty then some ty else none
def aAz (b:Builtin) (args:List Operand) (ts:List TypeId):Option Op :=
 match b,args,ts with
 | .len,[x],[t]=>match P.underlying t with
  | some .string=>(cx x).map (.len 0)
  | some (.slice _)=>(cx x).map (.len 1)
  | some (.map ..)=>(cx x).map (.len 2)
  | some (.chan ..)=>(cx x).map (.len 3)
  | some (.array n _)=>some (.lenk n)
  | some (.pointer a)=>match P.underlying a with
   | some (.array n _)=>some (.lenk n)
   | _=>none
  | _=>none
 | .append,[x,y],[t,u]=>match P.underlying t,P.underlying u with
  | some (.slice e),some d =>
   match d with
   | .int _=>none
   | _=>(P.info? e).bind fun i=>if (match i.zero with | some z=>z.cells.size == i.size | none=>false) then (cx x).bind fun a=>(cx y).map fun b => .app i.size i.bytes a b else none
  | _,_=>none
 | .copy,[x,y],t::_=>match P.underlying t with
  | some (.slice e)=>(P.info? e).bind fun i=>(cx x).bind fun a=>(cx y).map fun b => .cpy i.size a b
  | _=>none
 | .max,[x,y],_=>(cx x).bind fun a=>(cx y).map fun b => .mx a b
 | .min,[x,y],_=>(cx x).bind fun a=>(cx y).map fun b => .mn a b
 | .delete,[m,k],t::_=>match P.underlying t with
  | some (.map kt _)=>match P.underlying kt with
   | some (.struct _)=>(aCd P kt).bind fun ty=>(cx m).bind fun a=>(cx k).map fun b => .del ty a b
   | _=>none
  | _=>none
 | .clear,[x],[t]=>match P.underlying t with
  | some (.map ..)=>(cx x).map .clrm
  | some (.slice e)=>(zeroOf P e).bind fun z=>(cx x).map (.clr z)
  | _=>none
 | _,_,_=>none
def callable (f:FuncId):Bool :=
 match P.funcs[f]? with
 | some fn=>fn.name != "runtime.NumGoroutine" && fn.body.isSome
 | none=>false
def comp (o:Oper):Option Op :=
 match o.op with
 | .move x | .assign x=>(cx x).map .mov
 | .pick c a b=>(cx c).bind fun c=>(cx a).bind fun a=>(cx b).map fun b => .pick c a b
 | .alloc t=>(zeroOf P t).map .new
 | .box _ x=>(cx x).map .box
 | .build t ps=>(zeroOf P t).bind fun z=>match P.underlying t with
  | some (.struct fs)=>if fs.toList.all (fun f=>(P.info? f.type).isSome) then (aBE (place P fs) ps.toList).map (.build z) else none
  | some (.array _ e)=>(P.info? e).bind fun i=>(aBE (fun k=>some (k*i.size,i.size)) ps.toList).map (.build z)
  | _=>none
 | .buildSlice t n ps=>match P.underlying t with
  | some (.slice e)=>(P.info? e).bind fun i=>if n*i.size≤2^24 then
    (if n*i.size=0 then some [] else (zeroOf P e).bind fun z=>if z.length=i.size then some (List.replicate n z).flatten else none).bind fun z =>
     (aBE (fun k=>some (k*i.size,i.size)) ps.toList).map (.bsl n z) else none
  | _=>none
 | .load t a=>(cx a).bind fun x=>(aT P t).map fun b=>if b then .ldn (P.cellsOf t) x else .ld x
 | .store t a x=>(cx a).bind fun a=>(cx x).bind fun x=>(aT P t).bind fun b=>if b then some (.stn (P.cellsOf t) a x) else if P.cellsOf t=1 then some (.st a x) else none
 | .nilCheck x=>(cx x).map .nilc
 | .binOp op t x y _=>aDg P op t x y
 | .unOp op _ x=>(cx x).map (.un op)
 | .convert s d x=>aCL P s d x
 | .makeFunc (.func f) first caps=>if first.size=0 then (cxs caps.toList).map (.mkf f) else none
 | .makeMap _ none=>some .mkm
 | .makeChan t x=>match P.underlying t with
  | some (.chan _ e)=>(P.info? e).bind fun i=>(cx x).map (.mkc i.bytes)
  | _=>none
 | .makeSlice t l c=>match P.underlying t with
  | some (.slice e)=>(P.info? e).bind fun i=>(zeroOf P e).bind fun z=>if z.length=i.size then (cx l).bind fun l=>(cx c).map fun c => .mks z i.bytes l c else none
  | _=>none
 | .slice t x lo hi mx=>(cx x).bind fun x=>(cxo lo).bind fun lo=>(cxo hi).bind fun hi=>(cxo mx).bind fun mx=>match P.underlying t with
  | some .string=>if mx.isNone then some (.sls x lo hi) else none
  | some (.slice e)=>(P.info? e).map fun i => .sl i.size x lo hi mx
  | some (.array n e)=>(P.info? e).map fun i => .sla n i.size x lo hi mx
  | some (.pointer a)=>match P.underlying a with
   | some (.array n e)=>(P.info? e).map fun i => .sla n i.size x lo hi mx
   | _=>none
  | _=>none
 | .fieldAddr t x f=>match P.underlying t with
  | some (.struct fs)=>(fs[f]?).bind fun f=>(P.info? f.type).bind fun i=>if i.size=0 then none else (cx x).map (.fa f.offset)
  | _=>none
 | .field t x f=>match P.underlying t with
  | some (.struct fs)=>(fs[f]?).bind fun f=>(aT P f.type).bind fun b=>(cx x).map fun x=>if b then .fldn f.offset (P.cellsOf f.type) x else .fld f.offset x
  | _=>none
 | .indexAddr t x i=>match P.underlying t with
  | some (.slice e)=>(P.info? e).bind fun s=>(cx x).bind fun x=>(cx i).map fun i => .ia s.size x i
  | some (.array n e)=>(P.info? e).bind fun s=>(cx x).bind fun x=>(cx i).map fun i => .iaa n s.size x i
  | _=>none
 | .index t x i=>match P.underlying t with
  | some .string=>(cx x).bind fun x=>(cx i).map fun i => .ixs x i
  | some (.array n e)=>(aT P e).bind fun b=>(cx x).bind fun x=>(cx i).bind fun i=>if b then some (.ixan n (P.cellsOf e) x i) else if P.cellsOf e=1 then some (.ixa n x i) else none
  | _=>none
 | .lookup t m k ok=>match P.underlying t with
  | some (.map kt e)=>match P.underlying kt with
   | some (.struct _)=>(aCd P kt).bind fun ty=>(match (P.info? e).bind (·.zero) with
     | some (.agg cs)=>if cs.toList.all ground then some (Value.agg cs) else none
     | some z=>if ground z then some z else none
     | none=>none).bind fun z=>(cx m).bind fun m=>(cx k).map fun k => .look ty z ok m k
   | _=>none
  | _=>none
 | .mapUpdate t m k v=>match P.underlying t with
  | some (.map kt _)=>match P.underlying kt with
   | some (.struct _)=>(aCd P kt).bind fun ty=>(cx m).bind fun m=>(cx k).bind fun k=>(cx v).map fun v => .mset ty m k v
   | _=>none
  | _=>none
 | .extract x i=>(cx x).map fun x => .ext x i
 | .call { callee := .builtin b,args,argTypes }=>aAz P b args.toList argTypes.toList
 | .call { callee := .value (.func f),args,.. }=>if callable P f then (cxs args.toList).map (.call f) else none
 | .call { callee := .value f,args,.. }=>(cx f).bind fun f=>(cxs args.toList).map (.bC f)
 | _=>none
end
def ER (φ:Phi) (e:Env) (a:Act):Prop:=∀ t,VR φ (e t) (a.eval (.tmp t))
def Good (r:Result Next) (φ:Phi) (h:Hp) (w:World) (v:Value) (h':Hp):Prop :=
 ∃ φ' u w',(r = .ok (.value u) w'∨(r = .ok .skip w'∧u=undef))∧Ext φ h w φ' h' w'∧VR φ' v u
section
variable {P:Program} {φ:Phi} {e:Env} {a:Act} {h h':Hp} {w:World} {v:Value} {o:Oper}
theorem VR.ground {c:Value} (hg:ground c=true):VR φ c c:=by
 cases c<;>simp[Dx.ground] at hg
 case bool=>exact .bool _
 case int=>exact .int _ _
 case string=>exact .str _
 case pointer p=>cases p<;>simp at hg; exact .pnil
 case slice p n c=>cases p<;>simp at hg; exact .snil _ _
 case map p=>cases p<;>simp at hg; exact .mnil
 case chan p=>cases p<;>simp at hg; exact .cnil
 case nilFunc=>exact .nilFunc
 case nilIface=>exact .nilIface
theorem LR.ground {l:List Value} (hg:l.all Dx.ground=true):LR φ l l:=by
 induction l with
 | nil=>exact .nil _
 | cons x l ih =>
  simp only[List.all_cons,Bool.and_eq_true] at hg
  exact .cons (.ground hg.1) (ih hg.2)
theorem aI {x:Operand} {y:X} (hc:cx x=some y) (he:ER φ e a):VR φ (y.ev e) (a.eval x):=by
 cases x with
 | tmp t=>simp[cx] at hc; subst hc; exact he t
 | const c =>
  simp only[cx] at hc
  split at hc
  ·rename_i hg; cases hc; exact .ground hg
  ·cases hc
 | func f=>simp[cx] at hc; subst hc; exact .func f _ _ rfl fun i hi=>by simp at hi
 | global g=>simp[cx] at hc
theorem aFx {l:List Operand} {m:List X} (hc:cxs l=some m) (he:ER φ e a):LR φ (evs e m) (l.map a.eval):=by
 induction l generalizing m with
 | nil=>simp[cxs] at hc; subst hc; exact .nil _
 | cons x l ih =>
  simp only[cxs,List.mapM_cons] at hc
  cases hx:cx x with
  | none=>simp[hx] at hc
  | some y =>
   cases hl:cxs l with
   | none=>simp[hx,cxs] at hc hl; simp[hl] at hc
   | some k =>
    have hl':=hl
    simp only[cxs] at hl'
    simp[hx,hl'] at hc
    subst hc
    exact .cons (aI hx he) (ih hl)
theorem Good.val {r:Result Next} {u:Value} (hr:HR φ h w) (hrun:r = .ok (.value u) w) (hv:VR φ v u):Good r φ h w v h :=
 ⟨φ,u,w,.inl hrun,.refl hr,hv⟩
theorem aJ (s:Sem Value) {u:Value} {w':World} (hs:s.run P w = .ok u w'):(do pure (Next.value (← s)):Sem Next).run P w = .ok (.value u) w':=by
 simp[hs]
theorem aB1 (s:Sem Unit) {w':World} (hs:s.run P w = .ok () w'):(do s; pure Next.skip:Sem Next).run P w = .ok .skip w':=by
 simp[hs]
theorem Good.pure (s:Sem Value) {u:Value} (hr:HR φ h w) (hs:s.run P w = .ok u w) (hv:VR φ v u):Good ((do Pure.pure (Next.value (← s)):Sem Next).run P w) φ h w v h :=
 ⟨φ,u,w,.inl (aJ s hs),.refl hr,hv⟩
theorem VR.at {x u:Value} {b o:Nat} (hx:VR φ x u) (hp:at? x=some (b,o)):∃ b' n,u = .pointer (some ⟨b',o,none⟩)∧φ b=some (b',n)∧x = .pointer (some ⟨b,o,none⟩):=by
 cases hx<;>simp[at?] at hp
 case ptr b' n o h=>obtain ⟨rfl,rfl⟩:=hp; exact ⟨b',n,rfl,h,rfl⟩
theorem aAE {t:TypeId} {i:TypeInfo} (hi:P.info? t=some i):(typeInfo t).run P w = .ok i w:=by
 simp[typeInfo,hi]
theorem aF {t:TypeId} {d:TypeDesc} (hd:P.underlying t=some d):(underlying t).run P w = .ok d w:=by
 simp[underlying,hd]
theorem aH {t:TypeId} {i:TypeInfo} (hi:P.info? t=some i):(sizeOf t).run P w = .ok i.size w:=by
 simp[sizeOf,aAE hi]
theorem info_of_underlying {t:TypeId} {d:TypeDesc} (hd:P.underlying t=some d):∃ i,P.info? t=some i:=by
 unfold Program.underlying at hd
 cases hi:P.info? t with
 | none=>simp[hi] at hd
 | some i=>exact ⟨i,rfl⟩
theorem aA1 {t:TypeId} {b:Bool} (hb:aT P t=some b):(isAgg t).run P w = .ok b w:=by
 unfold aT at hb
 cases hu:P.underlying t with
 | none=>simp[hu] at hb
 | some d =>
  simp only[hu,Option.map_some,Option.some.injEq] at hb
  subst hb
  simp only[isAgg,Sem.run_bind,aF hu,Result.andThen_ok]
  cases d<;>rfl
theorem aAC {t:TypeId} {b:Bool} (hb:aT P t=some b):(sizeOf t).run P w = .ok (P.cellsOf t) w:=by
 unfold aT at hb
 cases hu:P.underlying t with
 | none=>simp[hu] at hb
 | some d =>
  obtain ⟨i,hi⟩:=info_of_underlying hu
  rw[aH hi]
  simp[Program.cellsOf,hi]
theorem aA4 {t:TypeId} {i:TypeInfo} (hi:P.info? t=some i):P.cellsOf t=i.size:=by simp[Program.cellsOf,hi]
theorem addr_add (b o k:Nat):(⟨b,o,none⟩:Addr).add k=⟨b,o+k,none⟩:=by
 unfold Addr.add; split<;>simp_all
theorem aLB {t:TypeId} {x:X} {u:Value} (hb:aT P t=some false) (hx:VR φ (x.ev e) u) (hr:HR φ h w) (hv:opV e h (.ld x)=some (v,h')) :
  Good ((do Pure.pure (Next.value (← Instr.loadAt t u)):Sem Next).run P w) φ h w v h':=by
 simp only[opV,Option.bind_eq_some_iff,Option.map_eq_some_iff] at hv
 obtain ⟨⟨b,o⟩,hp,v',hrd,heq⟩:=hv
 cases heq
 obtain ⟨b',n,rfl,hφ,_⟩:=hx.at hp
 obtain ⟨y,hy,hvy⟩:=hr.rd hrd hφ
 refine .pure _ hr ?_ hvy
 simp[Instr.loadAt,Instr.sureAddr,loadVar,aA1 hb,hy]
theorem aI4 {t:TypeId} {x:X} {u:Value} (hb:aT P t=some true) (hx:VR φ (x.ev e) u) (hr:HR φ h w) (hv:opV e h (.ldn (P.cellsOf t) x)=some (v,h')) :
  Good ((do Pure.pure (Next.value (← Instr.loadAt t u)):Sem Next).run P w) φ h w v h':=by
 simp only[opV,Option.bind_eq_some_iff,Option.map_eq_some_iff] at hv
 obtain ⟨⟨b,o⟩,hp,v',hrd,heq⟩:=hv
 cases heq
 obtain ⟨b',n,rfl,hφ,_⟩:=hx.at hp
 obtain ⟨y,hy,hvy,_,_⟩:=hr.rdn (P:=P) hrd hφ
 refine .pure _ hr ?_ (VR.aH2 hvy)
 simp[Instr.loadAt,Instr.sureAddr,loadVar,aA1 hb,aAC hb,hy w rfl]
theorem aG0 {v u:Value} (h:VR φ v u) (h1:one v=true):u.cells = #[u]:=by
 cases h<;>first | rfl | (simp[one] at h1; done) | skip
 cases u<;>first | rfl | cases h1
theorem aL6 {t:TypeId} {x y:X} {u z:Value} (hb:aT P t=some false) (hs:P.cellsOf t=1) (hx:VR φ (x.ev e) u) (hy:VR φ (y.ev e) z) (hr:HR φ h w)
  (hv:opV e h (.st x y)=some (v,h')):Good ((do Instr.storeAt t u z; Pure.pure Next.skip:Sem Next).run P w) φ h w v h':=by
 simp only[opV,Option.bind_eq_some_iff] at hv
 obtain ⟨⟨b,o⟩,hp,hv⟩:=hv
 split at hv
 case isFalse=>cases hv
 rename_i h1
 simp only[Option.map_eq_some_iff] at hv
 obtain ⟨g,hw,heq⟩:=hv
 cases heq
 obtain ⟨b',n,rfl,hφ,_⟩:=hx.at hp
 obtain ⟨w',hrun,hext⟩:=hr.wr (P:=P) hw hφ (.cons hy (.nil _))
 refine ⟨φ,undef,w',.inr ⟨aB1 _ ?_,rfl⟩,hext,.undef _⟩
 simp[Instr.storeAt,Instr.sureAddr,storeVar,aG0 hy h1,aAC hb,hs,hrun]
theorem aI3 {t:TypeId} {x y:X} {u z:Value} (hb:aT P t=some true) (hx:VR φ (x.ev e) u) (hy:VR φ (y.ev e) z) (hr:HR φ h w)
  (hv:opV e h (.stn (P.cellsOf t) x y)=some (v,h')):Good ((do Instr.storeAt t u z; Pure.pure Next.skip:Sem Next).run P w) φ h w v h':=by
 simp only[opV,Option.bind_eq_some_iff] at hv
 obtain ⟨⟨b,o⟩,hp,hv⟩:=hv
 split at hv
 case h_2=>cases hv
 rename_i cs hcs
 split at hv
 case isFalse=>cases hv
 rename_i hsz
 simp only[Option.map_eq_some_iff] at hv
 obtain ⟨g,hw,heq⟩:=hv
 cases heq
 obtain ⟨b',n,rfl,hφ,_⟩:=hx.at hp
 rw[hcs] at hy
 obtain ⟨cs',rfl,hl⟩:=hy.aAO
 have hsz':cs'.size=P.cellsOf t:=by have:=hl.1; simp at this; omega
 obtain ⟨w',hrun,hext⟩:=hr.wr (P:=P) hw hφ hl
 refine ⟨φ,undef,w',.inr ⟨aB1 _ ?_,rfl⟩,hext,.undef _⟩
 simp[Instr.storeAt,Instr.sureAddr,storeVar,Value.cells,aAC hb,hsz',hrun]
theorem aAg {id:Nat} {fill:Ob→Hp} (sl:Slot φ h id fill) (hr:HR φ h w) {c:List Value} {arr:Array Value} (elem:TypeId) (hl:LR φ c arr.toList) :
  ∃ φ',Ext φ h w φ' (fill (.cells false c)) { w with heap:=w.heap.push (.cells arr elem) }∧φ' id=some (w.heap.size,arr.size):=by
 refine ⟨ups φ id (w.heap.size,arr.size),.alloc sl hr _ (.cells arr elem) arr.size rfl rfl rfl rfl ⟨arr,elem,(0,0),by simp,rfl,?_,?_,fun _ => .inl rfl⟩,by simp[ups]⟩
 ·have:=hl.1; simp at this; omega
 ·have h1:=hl.1
  rw[h1,List.take_of_length_le (Nat.le_refl _)]
  refine hl.mono fun b x hb=>?_
  unfold ups
  split
  ·rename_i e; subst e; rw[sl.phi hr] at hb; cases hb
  ·exact hb
theorem aJK {id:Nat} {fill:Ob→Hp} {ob:Ob} {t:TypeId} {z:List Value} (sl:Slot φ h id fill) (hz:zeroOf P t=some z) (hr:HR φ h w) (hv:opA id e (.new z)=some (v,ob)) :
  Good ((do Pure.pure (Next.value (← Instr.alloc t true (.tuple #[]))):Sem Next).run P w) φ h w v (fill ob):=by
 simp only[opA,Option.some.injEq,Prod.mk.injEq] at hv
 obtain ⟨rfl,rfl⟩:=hv
 unfold zeroOf at hz
 cases hi:P.info? t with
 | none=>simp[hi] at hz
 | some i =>
  cases hz':i.zero with
  | none=>simp[hi,hz'] at hz
  | some zv =>
   simp only[hi,hz',Option.bind_some] at hz
   split at hz
   case isFalse=>cases hz
   rename_i hg
   cases hz
   obtain ⟨φ',hext,hφ⟩:=aAg sl hr t (LR.ground (φ:=φ) hg)
   refine ⟨φ',.pointer (some ⟨w.heap.size,0,none⟩),_,.inl (aJ _ ?_),hext,.ptr 0 hφ⟩
   simp[Instr.alloc,zeroValue,aAE hi,hz',newVar,newRow]
theorem aIT {id:Nat} {fill:Ob→Hp} {ob:Ob} {t:TypeId} {x:X} {u:Value} (sl:Slot φ h id fill) (hx:VR φ (x.ev e) u) (hr:HR φ h w) (hv:opA id e (.box x)=some (v,ob)) :
  Good ((do Pure.pure (Next.value (← Instr.box t u)):Sem Next).run P w) φ h w v (fill ob):=by
 simp only[opA] at hv
 split at hv
 ·cases hv
 rename_i hj
 simp only[Option.some.injEq,Prod.mk.injEq] at hv
 obtain ⟨rfl,rfl⟩:=hv
 obtain ⟨φ',hext,hφ⟩:=aAg sl hr t (hx.cells (by simpa using hj))
 refine ⟨φ',.pointer (some ⟨w.heap.size,0,none⟩),_,.inl (aJ _ ?_),hext,.ptr 0 hφ⟩
 simp[Instr.box,newVar,newRow]
theorem aCk (off:Nat):∀ (l:List Value) (k:Nat) (cs:Array Value),off+k+l.length≤cs.size →
  ((l.zipIdx k).foldl (fun cs p=>cs.setIfInBounds (off+p.2) p.1) cs).toList=over cs.toList (off+k) l:=by
 intro l
 induction l with
 | nil=>intro k cs _; simp[over]
 | cons x l ih =>
  intro k cs hs
  simp only[List.length_cons] at hs
  simp only[List.zipIdx_cons,List.foldl_cons]
  rw[ih (k+1) _ (by simp; omega)]
  have ho:off+k<cs.toList.length:=by simp; omega
  simp only[over,Array.toList_setIfInBounds,List.length_cons]
  rw[show off+(k+1)=off+k+1 by omega,List.take_set,List.take_add_one,List.drop_set,if_pos (by omega),List.getElem?_eq_getElem ho,List.set_append_right _ _ (by simp; omega)]
  have:off+k-(cs.toList.take (off+k)).length=0:=by simp; omega
  rw[this,show off+k+1+l.length=off+k+(l.length+1) by omega]
  simp
theorem aLr {c d vs us:List Value} (o:Nat) (hc:LR φ c d) (hv:LR φ vs us):LR φ (over c o vs) (over d o us):=by
 unfold over
 rw[← hv.1]
 exact ((hc.take o).append hv).append (hc.drop _)
theorem aDd {pl:Nat→Option (Nat×Nat)}:∀ (ps:List (Nat×Operand)) (qs:List (Nat×Nat×X)) (c r:List Value) (d:Array Value),aBE pl ps=some qs→ER φ e a →
  LR φ c d.toList→aAt c (evp e qs)=some r→∃ d',Instr.fill pl d (ps.map fun p=>(p.1,a.eval p.2))=some d'∧LR φ r d'.toList:=by
 intro ps
 induction ps with
 | nil =>
  intro qs c r d hq he hc hf
  simp[aBE] at hq
  subst hq
  simp[evp,aAt] at hf
  subst hf
  exact ⟨d,rfl,hc⟩
 | cons p ps ih =>
  intro qs c r d hq he hc hf
  simp only[aBE,List.mapM_cons] at hq
  obtain ⟨q,hq1,hq⟩:=Option.bind_eq_some_iff.1 hq
  obtain ⟨q',hq2,hq⟩:=Option.bind_eq_some_iff.1 hq
  cases hq
  obtain ⟨⟨off,size⟩,hpl,hq1⟩:=Option.bind_eq_some_iff.1 hq1
  obtain ⟨x,hx,hq1⟩:=Option.map_eq_some_iff.1 hq1
  subst hq1
  simp only[evp,List.map_cons,aAt] at hf
  split at hf
  case isFalse=>cases hf
  rename_i hcond
  obtain ⟨hj,h1,h2⟩:=hcond
  have hvx:=aI hx he
  have hcells:=hvx.cells hj
  have hsz:(a.eval p.2).cells.size=size:=by have:=hcells.1; simp at this; omega
  have hlen:d.size=c.length:=by have:=hc.1; simp at this; omega
  have hfold:((a.eval p.2).cells.zipIdx.foldl (fun cs (x:Value×Nat)=>cs.setIfInBounds (off+x.2) x.1) d).toList=over d.toList off (a.eval p.2).cells.toList:=by
   rw[← Array.foldl_toList,Array.toList_zipIdx]
   simpa using aCk off (a.eval p.2).cells.toList 0 d (by simp; omega)
  obtain ⟨d',hd1,hd2⟩:=ih q' _ r ((a.eval p.2).cells.zipIdx.foldl (fun cs (x:Value×Nat)=>cs.setIfInBounds (off+x.2) x.1) d) hq2 he (by rw[hfold]; exact aLr off hc hcells) hf
  refine ⟨d',?_,hd2⟩
  simp only[List.map_cons,Instr.fill,hpl]
  have hno:((a.eval p.2).cells.size≠size || decide (off+(a.eval p.2).cells.size>d.size))=false:=by
   simp[hsz]; omega
  simp only[hno,Bool.false_eq_true,if_false]
  exact hd1
theorem aBQ {α β:Type} (f:α→Sem β) (g:α→β):∀ (l:List α),(∀ x∈l,(f x).run P w = .ok (g x) w)→(l.mapM f).run P w = .ok (l.map g) w
 | [],_=>by simp
 | x::l,hf=>by simp[List.mapM_cons,hf x (by simp),aBQ f g l fun y hy=>hf y (by simp[hy])]
theorem aAa {t:TypeId} {z:List Value} (hz:zeroOf P t=some z):∃ zv,(zeroValue t).run P w = .ok zv w∧zv.cells.toList=z∧z.all ground=true:=by
 unfold zeroOf at hz
 cases hi:P.info? t with
 | none=>simp[hi] at hz
 | some i =>
  cases hz':i.zero with
  | none=>simp[hi,hz'] at hz
  | some zv =>
   simp only[hi,hz',Option.bind_some] at hz
   split at hz
   case isFalse=>cases hz
   rename_i hg
   cases hz
   exact ⟨zv,by simp[zeroValue,aAE hi,hz'],rfl,hg⟩
theorem aBO {t:TypeId} {fs:Array Field} {z:List Value} {ps:Array (Nat×Operand)} {qs:List (Nat×Nat×X)} (hu:P.underlying t=some (.struct fs)) (hz:zeroOf P t=some z)
  (hall:fs.toList.all (fun f=>(P.info? f.type).isSome)=true) (hq:aBE (place P fs) ps.toList=some qs) (he:ER φ e a) (hr:HR φ h w) (hv:opV e h (.build z qs)=some (v,h')) :
  Good ((do Pure.pure (Next.value (← Instr.build t (ps.map fun (i,x)=>(i,a.eval x)))):Sem Next).run P w) φ h w v h':=by
 simp only[opV,Option.map_eq_some_iff] at hv
 obtain ⟨c,hf,heq⟩:=hv
 cases heq
 obtain ⟨zv,hz1,hz2,hz3⟩:=aAa (w:=w) hz
 obtain ⟨d,hd1,hd2⟩:=aDd ps.toList qs z c zv.cells hq he (by rw[hz2]; exact .ground hz3) hf
 refine .pure _ hr (u := .agg d) ?_ (by simpa using VR.aH2 hd2)
 have hm:(fs.mapM fun f=>do Pure.pure (f.offset,← sizeOf f.type):Sem (Array (Nat×Nat))).run P w = .ok (fs.map fun f=>(f.offset,P.cellsOf f.type)) w:=by
  have:(fs.mapM fun f=>do Pure.pure (f.offset,← sizeOf f.type):Sem (Array (Nat×Nat)))=List.toArray <$> (fs.toList.mapM fun f=>do Pure.pure (f.offset,← sizeOf f.type):Sem (List (Nat×Nat))):=by
   rw[Array.mapM_eq_mapM_toList]
  rw[this,Sem.run_map,aBQ _ (fun f=>(f.offset,P.cellsOf f.type))]
  ·simp only[Result.andThen_ok]
   rw[← Array.toList_map]
  ·intro f hf
   have:=List.all_eq_true.1 hall f hf
   obtain ⟨i,hi⟩:=Option.isSome_iff_exists.1 this
   simp[aH hi,aA4 hi]
 have hpl:(fun x=>(fs.map fun f=>(f.offset,P.cellsOf f.type))[x]?)=place P fs:=by
  funext k
  simp only[place,Array.getElem?_map]
  cases hk:fs[k]? with
  | none=>rfl
  | some f =>
   have:=List.all_eq_true.1 hall f (by simpa using Array.mem_of_getElem? hk)
   obtain ⟨i,hi⟩:=Option.isSome_iff_exists.1 this
   simp[hi,aA4 hi]
 simp only[Instr.build,Sem.run_bind,hz1,aF hu,Result.andThen_ok,hm,hpl,Array.toList_map]
 rw[hd1]
 rfl
theorem aBX {t el:TypeId} {n:Nat} {i:TypeInfo} {z:List Value} {ps:Array (Nat×Operand)} {qs:List (Nat×Nat×X)} (hu:P.underlying t=some (.array n el)) (hz:zeroOf P t=some z)
  (hi:P.info? el=some i) (hq:aBE (fun k=>some (k*i.size,i.size)) ps.toList=some qs) (he:ER φ e a) (hr:HR φ h w) (hv:opV e h (.build z qs)=some (v,h')) :
  Good ((do Pure.pure (Next.value (← Instr.build t (ps.map fun (i,x)=>(i,a.eval x)))):Sem Next).run P w) φ h w v h':=by
 simp only[opV,Option.map_eq_some_iff] at hv
 obtain ⟨c,hf,heq⟩:=hv
 cases heq
 obtain ⟨zv,hz1,hz2,hz3⟩:=aAa (w:=w) hz
 obtain ⟨d,hd1,hd2⟩:=aDd ps.toList qs z c zv.cells hq he (by rw[hz2]; exact .ground hz3) hf
 refine .pure _ hr (u := .agg d) ?_ (by simpa using VR.aH2 hd2)
 simp only[Instr.build,Sem.run_bind,hz1,aF hu,Result.andThen_ok,aH hi,Array.toList_map]
 rw[hd1]
 rfl
theorem aBe (z:Array Value) (n:Nat) (hz:0<z.size):((Array.range (n*z.size)).map (fun i=>z[i%z.size]!)).toList=(List.replicate n z.toList).flatten:=by
 induction n with
 | zero=>simp
 | succ n ih =>
  rw[Array.toList_map,Array.toList_range] at ih ⊢
  rw[Nat.succ_mul,List.range_add,List.map_append,ih,List.replicate_succ',List.flatten_append]
  congr 1
  simp only[List.map_map,List.flatten_cons,List.flatten_nil,List.append_nil]
  apply List.ext_getElem?
  intro k
  by_cases hk:k<z.size
  ·simp[hk,Nat.mod_eq_of_lt hk]
  ·simp[hk]
theorem aIW {id:Nat} {fill:Ob→Hp} {ob:Ob} (sl:Slot φ h id fill) {t el:TypeId} {n:Nat} {i:TypeInfo} {z:List Value} {ps:Array (Nat×Operand)} {qs:List (Nat×Nat×X)} (hu:P.underlying t=some (.slice el))
  (hi:P.info? el=some i) (hn:n*i.size≤2^24)
  (hz:(if n*i.size=0 then some [] else (zeroOf P el).bind fun z=>if z.length=i.size then some (List.replicate n z).flatten else none)=some z)
  (hq:aBE (fun k=>some (k*i.size,i.size)) ps.toList=some qs) (he:ER φ e a) (hr:HR φ h w) (hv:opA id e (.bsl n z qs)=some (v,ob)) :
  Good ((do Pure.pure (Next.value (← Instr.buildSlice t n (ps.map fun (i,x)=>(i,a.eval x)))):Sem Next).run P w) φ h w v (fill ob):=by
 simp only[opA,Option.map_eq_some_iff] at hv
 obtain ⟨c,hf,heq⟩:=hv
 cases heq
 have hcells:∃ zs:Array Value,(if n*i.size=0 then Pure.pure #[] else do Pure.pure (← zeroValue el).cells:Sem (Array Value)).run P w = .ok zs w ∧
   LR φ z ((Array.range (n*i.size)).map (zs[·%zs.size]!)).toList:=by
  by_cases h0:n*i.size=0
  ·simp only[h0,if_true] at hz ⊢
   cases hz
   exact ⟨#[],rfl,by simpa using LR.nil φ⟩
  ·simp only[h0,if_false] at hz ⊢
   obtain ⟨z0,hz0,hz⟩:=Option.bind_eq_some_iff.1 hz
   split at hz
   case isFalse=>cases hz
   rename_i hlen
   cases hz
   obtain ⟨zv,hz1,hz2,hz3⟩:=aAa (w:=w) hz0
   refine ⟨zv.cells,by simp[hz1],?_⟩
   have hs:i.size=zv.cells.size:=by rw[← hlen,← hz2]; simp
   have hpos:0<zv.cells.size:=by
    rcases Nat.eq_zero_or_pos i.size with hh | hh
    ·simp[hh] at h0
    ·omega
   rw[hs,aBe _ _ hpos,hz2]
   exact .ground (by
    simp only[List.all_eq_true,List.mem_flatten,List.mem_replicate]
    rintro x ⟨l,⟨_,rfl⟩,hx⟩
    exact List.all_eq_true.1 hz3 x hx)
 obtain ⟨zs,hzs,hlr⟩:=hcells
 obtain ⟨d,hd1,hd2⟩:=aDd ps.toList qs z c _ hq he hlr hf
 obtain ⟨φ',hext,hφ⟩:=aAg sl hr el hd2
 refine ⟨φ',.slice (some ⟨w.heap.size,0,none⟩) n n,_,.inl (aJ _ ?_),hext,.sl 0 n n hφ⟩
 have hgt:¬ (n*i.size>2^24):=by omega
 simp only[Instr.buildSlice,Sem.run_bind,aF hu,Result.andThen_ok,aH hi]
 rw[if_neg hgt]
 by_cases h0:n*i.size=0
 ·simp only[if_pos h0,Sem.run_bind,Sem.run_pure,Result.andThen_ok,Array.toList_map] at hzs ⊢
  cases hzs
  rw[hd1]
  simp[newRow]
 ·simp only[if_neg h0,Sem.run_bind,Sem.run_pure,Result.andThen_ok,Array.toList_map] at hzs ⊢
  generalize (zeroValue el).run P w=r at *
  cases r with
  | halt x y=>simp at hzs
  | ok zv w1 =>
   simp only[Result.andThen_ok,Result.ok.injEq] at hzs ⊢
   obtain ⟨rfl,rfl⟩:=hzs
   rw[hd1]
   simp[newRow]
end
section
variable {P:Program} {φ:Phi} {e:Env} {a:Act} {h h':Hp} {w:World} {v:Value} {o:Oper}
theorem VR.aAG {k:IntKind} {n:Int} {u:Value} (h:VR φ (.int k n) u):u = .int k n:=by cases h; rfl
theorem VR.aAM {b:Bool} {u:Value} (h:VR φ (.bool b) u):u = .bool b:=by cases h; rfl
theorem VR.aAe {b:ByteArray} {u:Value} (h:VR φ (.string b) u):u = .string b:=by cases h; rfl
theorem aFs {x:X} {y:Operand} (hu:VR φ (x.ev e) (a.eval y)) (ho:o.op = .nilCheck y) (hr:HR φ h w) (hv:opV e h (.nilc x)=some (v,h')) :
  Good ((execOp a.eval o).run P w) φ h w v h':=by
 simp only[opV] at hv
 simp only[execOp,ho]
 generalize x.ev e=xv at *
 generalize a.eval y=yv at *
 split at hv
 ·cases hv
  cases hu with
  | ptr o h=>exact .val hr rfl (.ptr o h)
 ·cases hv
  obtain ⟨k,cs',hk,hb,rfl,hl⟩:=hu.aE1
  cases hk
  subst hb
  exact .val hr rfl (by simpa using VR.aK9 hl)
 ·cases hv
theorem aHz {op:BinOp} {k:IntKind} {x y:Int} {t:TypeId} (hv:aG op (.int k x) (.int k y)=some v) (hns:op ≠ .shl∧op ≠ .shr):(binOp op t (.int k x) (.int k y)).run P w = .ok v w:=by
 cases op<;>simp[aG,aS] at hv hns
 all_goals first
  | (subst hv; simp[binOp,Op.intArith,Op.intBits,Op.intCmp]; done)
  | (obtain ⟨h0,hv⟩:=hv; subst hv; simp[binOp,Op.intDiv,h0])
theorem aFX {op:BinOp} {k j:IntKind} {x y:Int} {t:TypeId} (hv:aG op (.int k x) (.int j y)=some v) (hs:op = .shl∨op = .shr):(binOp op t (.int k x) (.int j y)).run P w = .ok v w:=by
 rcases hs with rfl | rfl
 all_goals
  simp[aG,aAW] at hv
  obtain ⟨h0,hv⟩:=hv
  subst hv
  have:¬ (y<0):=by omega
  simp[binOp,Op.shift,this]
theorem aI7 {op:BinOp} {x y:Value} {t:TypeId} (hv:aG op x y=some v):(binOp op t x y).run P w = .ok v w:=by
 cases x<;>cases y<;>simp only[aG] at hv
 case int.int k n j m =>
  by_cases hs:op = .shl∨op = .shr
  ·exact aFX (by simpa only[aG] using hv) hs
  ·have hkj:k=j:=by
    cases op<;>simp at hs hv<;>exact hv.1
   subst hkj
   exact aHz (by simpa only[aG] using hv) (by simpa using hs)
 case string.string x y =>
  cases op<;>simp[aPD] at hv
  all_goals (subst hv; simp[binOp,Op.stringOp])
 all_goals (cases hv)
theorem aFL {op:BinOp} {x y u z:Value} (hv:aG op x y=some v) (hx:VR φ x u) (hy:VR φ y z):u=x∧z=y∧flat v=true∧flat x=true∧flat y=true:=by
 cases x<;>cases y<;>simp only[aG] at hv
 case int.int k n j m =>
  refine ⟨hx.aAG,hy.aAG,?_,rfl,rfl⟩
  cases op<;>simp[aAW,aS] at hv
  all_goals first
   | (obtain ⟨_,hv⟩:=hv; subst hv; rfl)
   | (obtain ⟨_,_,hv⟩:=hv; subst hv; rfl)
   | (subst hv; rfl)
 case string.string x y =>
  refine ⟨hx.aAe,hy.aAe,?_,rfl,rfl⟩
  cases op<;>simp[aPD] at hv
  all_goals (subst hv; rfl)
 all_goals (cases hv)
theorem VR.flat {c:Value} (hf:flat c=true):VR φ c c:=by
 cases c<;>simp[Dx.flat] at hf
 ·exact .bool _
 ·exact .int _ _
 ·exact .str _
theorem aAi {op:BinOp} {t:TypeId} {x y:Operand} {u z:Value} (h1:flat u=true) (h2:flat z=true):(eqGuard op t x y u z).run P w = .ok () w:=by
 cases u<;>simp[flat] at h1<;>cases z<;>simp[flat] at h2<;>cases op<;>simp[eqGuard]
theorem aEW {op:BinOp} {t yt:TypeId} {x y:Operand} {x' y':X} (hx:VR φ (x'.ev e) (a.eval x)) (hy:VR φ (y'.ev e) (a.eval y)) (ho:o.op = .binOp op t x y yt) (hr:HR φ h w)
  (hv:opV e h (.bin op x' y')=some (v,h')):Good ((execOp a.eval o).run P w) φ h w v h':=by
 simp only[opV,Option.map_eq_some_iff] at hv
 obtain ⟨r,hb,heq⟩:=hv
 cases heq
 obtain ⟨h1,h2,h3,h4,h5⟩:=aFL hb hx hy
 simp only[execOp,ho]
 refine .pure _ hr (u:=v) ?_ (.flat h3)
 rw[h1,h2]
 simp[aAi h4 h5,aI7 hb]
theorem aE7 {op:BinOp} {neg:Bool} {t yt:TypeId} {x y:Operand} {x' y':X} (ht:P.underlying t=some .bool) (hop:op=if neg then .neq else .eql) (hx:VR φ (x'.ev e) (a.eval x)) (hy:VR φ (y'.ev e) (a.eval y))
  (ho:o.op = .binOp op t x y yt) (hr:HR φ h w) (hv:opV e h (.eqb neg x' y')=some (v,h')):Good ((execOp a.eval o).run P w) φ h w v h':=by
 simp only[opV] at hv
 split at hv
 case h_2=>cases hv
 rename_i p q e1 e2
 cases hv
 rw[e1] at hx
 rw[e2] at hy
 simp only[execOp,ho]
 refine .pure _ hr (u := .bool ((p == q) != neg)) ?_ (.bool _)
 rw[hx.aAM,hy.aAM]
 have hg:(eqGuard op t x y (.bool p) (.bool q)).run P w = .ok () w:=aAi rfl rfl
 have hE:(Op.equal t (.bool p) (.bool q)).run P w = .ok (p == q) w:=run_equalIn_bool' w 9999 t p q ht
 cases neg<;>simp only[Bool.false_eq_true,if_false,if_true] at hop<;>subst hop<;>simp[hg,binOp,hE]
theorem aEA (s:Sem Unit) (r:Sem Value):(do s; r:Sem Value).run P w=(s.run P w).andThen fun _ w'=>r.run P w':=by simp
def aEw:Value→Bool
 | .pointer _ | .slice .. | .map _ | .nilFunc | .func .. => true
 | _=>false
theorem aBU {op:BinOp} {t:TypeId} {x y:Operand} {u z:Value} (hu:aEw u=true):(eqGuard op t x y u z).run P w = .ok () w:=by
 cases u<;>simp[aEw] at hu<;>cases op<;>simp[eqGuard]
theorem aCi {op:BinOp} {neg b:Bool} {t:TypeId} {u z:Value} (hop:op=if neg then .neq else .eql) (hu:aEw u=true) (hE:∀ d,(Op.equalIn (d+1) t u z).run P w = .ok b w) :
  (binOp op t u z).run P w = .ok (.bool (b != neg)) w:=by
 have hE':(Op.equal t u z).run P w = .ok b w:=hE 9999
 cases u<;>simp[aEw] at hu<;>cases neg<;>simp only[Bool.false_eq_true,if_false,if_true] at hop<;>subst hop<;>simp[binOp,hE']
def aBo:Nat→Value→Bool
 | 0,.pointer none | 1,.slice none _ _ | 2,.map none | 3,.nilFunc=>true
 | _,_=>false
theorem nil_eq {kd:Nat} {d:TypeDesc} {t:TypeId} {b:Bool} {u z:Value} (hk:kindOf d=some kd) (ht:P.underlying t=some d) (hb:isNil kd u=some b) (hz:aBo kd z=true) :
  (∀ n,(Op.equalIn (n+1) t u z).run P w = .ok b w∧(Op.equalIn (n+1) t z u).run P w = .ok b w)∧aEw u=true∧aEw z=true:=by
 cases d<;>simp[kindOf] at hk<;>subst hk
 ·cases u<;>simp[isNil] at hb
  cases z<;>simp[aBo] at hz
  rename_i p q
  cases q<;>simp[aBo] at hz
  subst hb
  refine ⟨fun n=>?_,rfl,rfl⟩
  cases p<;>simp[Op.equalIn,aF ht]
 ·cases u<;>simp[isNil] at hb
  cases z<;>simp[aBo] at hz
  rename_i p _ _ q _ _
  cases q<;>simp[aBo] at hz
  subst hb
  refine ⟨fun n=>?_,rfl,rfl⟩
  cases p<;>simp[Op.equalIn,aF ht]
 ·cases u<;>simp[isNil] at hb
  cases z<;>simp[aBo] at hz
  rename_i p q
  cases q<;>simp[aBo] at hz
  subst hb
  refine ⟨fun n=>?_,rfl,rfl⟩
  cases p<;>simp[Op.equalIn,aF ht]
 ·cases z<;>simp[aBo] at hz
  cases u<;>simp[isNil] at hb
  ·subst hb
   exact ⟨fun n=>by simp[Op.equalIn,aF ht],rfl,rfl⟩
  ·subst hb
   exact ⟨fun n=>by simp[Op.equalIn,aF ht],rfl,rfl⟩
theorem aHq {kd:Nat} {b:Bool} {xv u:Value} (hx:VR φ xv u) (hb:isNil kd xv=some b):isNil kd u=some b:=by
 unfold isNil at hb
 split at hb
 all_goals first
  | (cases hb; done)
  | (cases hb; cases hx<;>rfl)
theorem aEU {kd:Nat} {d:TypeDesc} {t:TypeId} {op:BinOp} {neg b:Bool} {x y:Operand} {u z xv:Value} (hk:kindOf d=some kd) (ht:P.underlying t=some d) (hop:op=if neg then .neq else .eql)
  (hx:VR φ xv u) (hb:isNil kd xv=some b) (hz:aBo kd z=true) :
  (do eqGuard op t x y u z; binOp op t u z:Sem Value).run P w = .ok (.bool (b != neg)) w∧(do eqGuard op t x y z u; binOp op t z u:Sem Value).run P w = .ok (.bool (b != neg)) w:=by
 obtain ⟨h1,h2,h3⟩:=nil_eq (w:=w) hk ht (aHq hx hb) hz
 constructor
 ·rw[aEA,aBU h2]
  exact aCi hop h2 fun d=>(h1 d).1
 ·rw[aEA,aBU h3]
  exact aCi hop h3 fun d=>(h1 d).2
theorem aEQ {op:BinOp} {neg:Bool} {d:TypeDesc} {kd:Nat} {t yt:TypeId} {x y:Operand} {x':X} (hk:kindOf d=some kd) (ht:P.underlying t=some d) (hop:op=if neg then .neq else .eql)
  (hx:(VR φ (x'.ev e) (a.eval x)∧aAs kd y=true)∨(VR φ (x'.ev e) (a.eval y)∧aAs kd x=true))
  (ho:o.op = .binOp op t x y yt) (hr:HR φ h w) (hv:opV e h (.eqn kd neg x')=some (v,h')):Good ((execOp a.eval o).run P w) φ h w v h':=by
 simp only[opV,Option.map_eq_some_iff] at hv
 obtain ⟨b,hb,heq⟩:=hv
 cases heq
 have hconst:∀ y,aAs kd y=true→aBo kd (a.eval y)=true:=fun y hy=>by
  unfold aAs at hy
  split at hy
  all_goals first | rfl | (cases hy)
 simp only[execOp,ho]
 refine .pure _ hr (u := .bool (b != neg)) ?_ (.bool _)
 rcases hx with ⟨hx,hn⟩ | ⟨hx,hn⟩
 ·exact (aEU hk ht hop hx hb (hconst y hn)).1
 ·exact (aEU hk ht hop hx hb (hconst x hn)).2
theorem aLE {op:UnOp} {t:TypeId} {x:Operand} {x':X} (hx:VR φ (x'.ev e) (a.eval x)) (ho:o.op = .unOp op t x) (hr:HR φ h w) (hv:opV e h (.un op x')=some (v,h')) :
  Good ((execOp a.eval o).run P w) φ h w v h':=by
 simp only[opV,Option.map_eq_some_iff] at hv
 obtain ⟨r,hb,heq⟩:=hv
 cases heq
 simp only[execOp,ho]
 generalize x'.ev e=xv at *
 cases op<;>cases xv<;>simp[unV] at hb
 all_goals subst hb
 ·rw[hx.aAG]; exact .pure _ hr (u := .int _ _) (by simp[Op.unary,Op.intArith]) (.int _ _)
 ·rw[hx.aAG]; exact .pure _ hr (u := .int _ _) (by simp[Op.unary,Op.intBits]) (.int _ _)
 ·rw[hx.aAM]; exact .pure _ hr (u := .bool _) (by simp[Op.unary]) (.bool _)
theorem aGX {s d:TypeId} {j k:IntKind} {x:Operand} {x':X} (hs:P.underlying s=some (.int j)) (hd:P.underlying d=some (.int k)) (hx:VR φ (x'.ev e) (a.eval x)) (ho:o.op = .convert s d x) (hr:HR φ h w)
  (hv:opV e h (.conv k x')=some (v,h')):Good ((execOp a.eval o).run P w) φ h w v h':=by
 simp only[opV] at hv
 split at hv
 case h_2=>cases hv
 rename_i i n hx'
 cases hv
 rw[hx'] at hx
 simp only[execOp,ho]
 rw[hx.aAG]
 exact .pure _ hr (u := .int k (k.wrap n)) (by simp[convert,aF hs,aF hd,Conv.intToInt]) (.int _ _)
theorem aHa {f:Nat} {first caps:Array Operand} {l:List X} (h0:first.size=0) (hl:cxs caps.toList=some l) (he:ER φ e a) (ho:o.op = .makeFunc (.func f) first caps) (hr:HR φ h w)
  (hv:opV e h (.mkf f l)=some (v,h')):Good ((execOp a.eval o).run P w) φ h w v h':=by
 simp only[opV,Option.some.injEq,Prod.mk.injEq] at hv
 obtain ⟨rfl,rfl⟩:=hv
 have:first = #[]:=by simpa using h0
 subst this
 simp only[execOp,ho]
 refine .pure _ hr (u := .func (.func f) #[] (caps.map a.eval)) (by simp[Instr.makeFunc]) ?_
 have:=VR.aK9 (f:=f) (aFx hl he)
 rw[← Array.toList_map,Array.toArray_toList] at this
 exact this
theorem aKV {t:TypeId} {x:Operand} {x':X} {k:Nat} {fs:Array Field} {f:Field} {i:TypeInfo} (ht:P.underlying t=some (.struct fs)) (hf:fs[k]?=some f) (hi:P.info? f.type=some i) (h0:i.size≠0)
  (hx:VR φ (x'.ev e) (a.eval x)) (ho:o.op = .fieldAddr t x k) (hr:HR φ h w) (hv:opV e h (.fa f.offset x')=some (v,h')):Good ((execOp a.eval o).run P w) φ h w v h':=by
 simp only[opV,Option.map_eq_some_iff] at hv
 obtain ⟨⟨b,off⟩,hp,heq⟩:=hv
 cases heq
 obtain ⟨b',n,hu,hφ,_⟩:=hx.at hp
 simp only[execOp,ho]
 refine .pure _ hr (u := .pointer (some ⟨b',off+f.offset,none⟩)) ?_ (.ptr _ hφ)
 rw[hu]
 simp[Instr.fieldAt,aF ht,hf,Instr.sureAddr,fieldPlace,aH hi,h0,addr_add]
theorem aAU {t:TypeId} {cs:Array Value} {off:Nat} {u:Value} (hb:aT P t=some false) (hu:cs[off]?=some u):(part t cs off).run P w = .ok u w:=by
 simp[part,aA1 hb,hu]
theorem aA5 {t:TypeId} {cs:Array Value} {off:Nat} (hb:aT P t=some true):(part t cs off).run P w = .ok (.agg (cs.extract off (off+P.cellsOf t))) w:=by
 simp[part,aA1 hb,aAC hb]
theorem extract_eq (cs:Array Value) (o n:Nat):cs.extract o (o+n)=((cs.toList.drop o).take n).toArray:=by
 apply Array.ext'
 simp
theorem aIr {t:TypeId} {x:Operand} {x':X} {k:Nat} {fs:Array Field} {f:Field} (ht:P.underlying t=some (.struct fs)) (hf:fs[k]?=some f) (hb:aT P f.type=some false)
  (hx:VR φ (x'.ev e) (a.eval x)) (ho:o.op = .field t x k) (hr:HR φ h w) (hv:opV e h (.fld f.offset x')=some (v,h')):Good ((execOp a.eval o).run P w) φ h w v h':=by
 simp only[opV] at hv
 split at hv
 case h_2=>cases hv
 rename_i cs hcs
 obtain ⟨u,hu,heq⟩:=Option.map_eq_some_iff.1 hv
 cases heq
 rw[hcs] at hx
 obtain ⟨cs',e1,hl⟩:=hx.aAO
 obtain ⟨z,hz,hvz⟩:=hl.get hu
 simp only[execOp,ho]
 refine .pure _ hr (u:=z) ?_ hvz
 rw[e1]
 have hz':cs'[f.offset]?=some z:=by simpa using hz
 simp[Instr.field,aF ht,hf,asAgg,aAU hb hz']
theorem aG3 {t:TypeId} {x:Operand} {x':X} {k:Nat} {fs:Array Field} {f:Field} (ht:P.underlying t=some (.struct fs)) (hf:fs[k]?=some f) (hb:aT P f.type=some true)
  (hx:VR φ (x'.ev e) (a.eval x)) (ho:o.op = .field t x k) (hr:HR φ h w) (hv:opV e h (.fldn f.offset (P.cellsOf f.type) x')=some (v,h')):Good ((execOp a.eval o).run P w) φ h w v h':=by
 simp only[opV] at hv
 split at hv
 case h_2=>cases hv
 rename_i cs hcs
 split at hv
 case isFalse=>cases hv
 cases hv
 rw[hcs] at hx
 obtain ⟨cs',e1,hl⟩:=hx.aAO
 simp only[execOp,ho]
 refine .pure _ hr (u := .agg _) ?_ (VR.aH2 ((hl.drop f.offset).take (P.cellsOf f.type)))
 rw[e1,← extract_eq]
 simp[Instr.field,aF ht,hf,asAgg,aA5 hb]
theorem aA8 {n:Nat} {i u:Value} {k:Nat} (hi:aAV n i=some k) (hv:VR φ i u):∃ j,u = .int j (k:Int)∧k<n:=by
 cases i<;>simp[aAV] at hi
 rename_i j m
 obtain ⟨⟨h0,h1⟩,h2⟩:=hi
 refine ⟨j,?_,by omega⟩
 rw[hv.aAG,← h2]
 congr 1
 omega
theorem aMQ {t el:TypeId} {x i:Operand} {x' i':X} {s:TypeInfo} (ht:P.underlying t=some (.slice el)) (hs:P.info? el=some s) (hx:VR φ (x'.ev e) (a.eval x)) (hi:VR φ (i'.ev e) (a.eval i))
  (ho:o.op = .indexAddr t x i) (hr:HR φ h w) (hv:opV e h (.ia s.size x' i')=some (v,h')):Good ((execOp a.eval o).run P w) φ h w v h':=by
 simp only[opV] at hv
 split at hv
 case h_2=>cases hv
 rename_i ad n c hx'
 obtain ⟨k,hk,heq⟩:=Option.map_eq_some_iff.1 hv
 cases heq
 obtain ⟨j,hj,hlt⟩:=aA8 hk hi
 simp only[execOp,ho,hj]
 rw[hx'] at hx
 have hlt':(k:Int)<(n:Int):=by omega
 generalize a.eval x=xu at *
 cases hx with
 | sl o n c hφ =>
  refine .pure _ hr (u := .pointer (some ⟨_,o+k*s.size,none⟩)) ?_ (.ptr _ hφ)
  simp[Instr.indexAt,asIntOf,aF ht,aH hs,hlt,hlt',addr_add]
 | slo o o' n c c' e2 hφ hc ho' hn hv' =>
  have h0:=ho' (by omega)
  subst h0
  refine .pure _ hr (u := .pointer (some ⟨_,o'+k*s.size,none⟩)) ?_ (.ptr _ hφ)
  simp[Instr.indexAt,asIntOf,aF ht,aH hs,hlt,hlt',addr_add]
theorem aIo {t el:TypeId} {x i:Operand} {x' i':X} {s:TypeInfo} {n:Nat} (ht:P.underlying t=some (.array n el)) (hs:P.info? el=some s) (hx:VR φ (x'.ev e) (a.eval x)) (hi:VR φ (i'.ev e) (a.eval i))
  (ho:o.op = .indexAddr t x i) (hr:HR φ h w) (hv:opV e h (.iaa n s.size x' i')=some (v,h')):Good ((execOp a.eval o).run P w) φ h w v h':=by
 simp only[opV,Option.bind_eq_some_iff,Option.map_eq_some_iff] at hv
 obtain ⟨⟨b,off⟩,hp,k,hk,heq⟩:=hv
 cases heq
 obtain ⟨j,hj,hlt⟩:=aA8 hk hi
 obtain ⟨b',m,hu,hφ,_⟩:=hx.at hp
 simp only[execOp,ho,hj,hu]
 have hlt':(k:Int)<(n:Int):=by omega
 refine .pure _ hr (u := .pointer (some ⟨_,off+k*s.size,none⟩)) ?_ (.ptr _ hφ)
 simp[Instr.indexAt,Instr.sureAddr,asIntOf,aF ht,aH hs,hlt,hlt',addr_add]
theorem aI5 {t:TypeId} {x i:Operand} {x' i':X} (ht:P.underlying t=some .string) (hx:VR φ (x'.ev e) (a.eval x)) (hi:VR φ (i'.ev e) (a.eval i))
  (ho:o.op = .index t x i) (hr:HR φ h w) (hv:opV e h (.ixs x' i')=some (v,h')):Good ((execOp a.eval o).run P w) φ h w v h':=by
 simp only[opV] at hv
 split at hv
 case h_2=>cases hv
 rename_i s hx'
 simp only[Option.bind_eq_some_iff,Option.map_eq_some_iff] at hv
 obtain ⟨k,hk,b,hb,heq⟩:=hv
 cases heq
 obtain ⟨j,hj,hlt⟩:=aA8 hk hi
 rw[hx'] at hx
 simp only[execOp,ho,hj,hx.aAe]
 refine .pure _ hr (u := .int .u8 b.toNat) ?_ (.int _ _)
 have hb':s[k]?=some b:=by
  have h1:k<s.data.size:=hlt
  have h2:s.data[k]?=some b:=by simpa using hb
  obtain ⟨h3,h4⟩:=Array.getElem?_eq_some_iff.1 h2
  show (if h:k<s.size then some s[k] else none)=some b
  rw[dif_pos hlt]
  exact congrArg some h4
 simp[Instr.index,asIntOf,aF ht,hb']
theorem aIf {t el:TypeId} {x i:Operand} {x' i':X} {n:Nat} (ht:P.underlying t=some (.array n el)) (hb:aT P el=some false) (hs:P.cellsOf el=1) (hx:VR φ (x'.ev e) (a.eval x)) (hi:VR φ (i'.ev e) (a.eval i))
  (ho:o.op = .index t x i) (hr:HR φ h w) (hv:opV e h (.ixa n x' i')=some (v,h')):Good ((execOp a.eval o).run P w) φ h w v h':=by
 simp only[opV] at hv
 split at hv
 case h_2=>cases hv
 rename_i cs hx'
 simp only[Option.bind_eq_some_iff,Option.map_eq_some_iff] at hv
 obtain ⟨k,hk,b,hbb,heq⟩:=hv
 cases heq
 obtain ⟨j,hj,hlt⟩:=aA8 hk hi
 rw[hx'] at hx
 obtain ⟨cs',e1,hl⟩:=hx.aAO
 obtain ⟨z,hz,hvz⟩:=hl.get hbb
 have hz':cs'[k]?=some z:=by simpa using hz
 simp only[execOp,ho,hj,e1]
 refine .pure _ hr (u:=z) ?_ hvz
 have hlt':(k:Int)<(n:Int):=by omega
 simp[Instr.index,asIntOf,aF ht,hlt,hlt',aAC hb,hs,aAU hb hz']
theorem aG6 {t el:TypeId} {x i:Operand} {x' i':X} {n:Nat} (ht:P.underlying t=some (.array n el)) (hb:aT P el=some true) (hx:VR φ (x'.ev e) (a.eval x)) (hi:VR φ (i'.ev e) (a.eval i))
  (ho:o.op = .index t x i) (hr:HR φ h w) (hv:opV e h (.ixan n (P.cellsOf el) x' i')=some (v,h')):Good ((execOp a.eval o).run P w) φ h w v h':=by
 simp only[opV] at hv
 split at hv
 case h_2=>cases hv
 rename_i cs hx'
 simp only[Option.bind_eq_some_iff] at hv
 obtain ⟨k,hk,hv⟩:=hv
 split at hv
 case isFalse=>cases hv
 cases hv
 obtain ⟨j,hj,hlt⟩:=aA8 hk hi
 rw[hx'] at hx
 obtain ⟨cs',e1,hl⟩:=hx.aAO
 simp only[execOp,ho,hj,e1]
 refine .pure _ hr (u := .agg _) ?_ (VR.aH2 ((hl.drop (k*P.cellsOf el)).take (P.cellsOf el)))
 have hlt':(k:Int)<(n:Int):=by omega
 rw[← extract_eq]
 simp[Instr.index,asIntOf,aF ht,hlt,hlt',aAC hb,aA5 hb]
theorem aH7 {x:Operand} {x':X} {k:Nat} (hx:VR φ (x'.ev e) (a.eval x)) (ho:o.op = .extract x k) (hr:HR φ h w) (hv:opV e h (.ext x' k)=some (v,h')) :
  Good ((execOp a.eval o).run P w) φ h w v h':=by
 simp only[opV] at hv
 split at hv
 case h_2=>cases hv
 rename_i cs hx'
 obtain ⟨u,hu,heq⟩:=Option.map_eq_some_iff.1 hv
 cases heq
 rw[hx'] at hx
 obtain ⟨cs',e1,hl⟩:=hx.aCj
 obtain ⟨z,hz,hvz⟩:=hl.get hu
 have hz':cs'[k]?=some z:=by simpa using hz
 simp only[execOp,ho,e1]
 exact .pure _ hr (u:=z) (by simp[Instr.extract,hz']) hvz
theorem aGb {c x y:Operand} {c' x' y':X} (hc:VR φ (c'.ev e) (a.eval c)) (hx:VR φ (x'.ev e) (a.eval x)) (hy:VR φ (y'.ev e) (a.eval y)) (ho:o.op = .pick c x y) (hr:HR φ h w)
  (hv:opV e h (.pick c' x' y')=some (v,h')):Good ((execOp a.eval o).run P w) φ h w v h':=by
 simp only[opV] at hv
 split at hv
 case h_2=>cases hv
 rename_i t ht
 cases hv
 rw[ht] at hc
 simp only[execOp,ho,hc.aAM]
 cases t
 ·exact .val hr (u:=a.eval y) (by simp[asBool]) (by simpa using hy)
 ·exact .val hr (u:=a.eval x) (by simp[asBool]) (by simpa using hx)
theorem aKe {x u:Value} {n:Nat} (hx:asN x=some n) (hv:VR φ x u):∃ k,u = .int k (n:Int):=by
 cases x<;>simp[asN] at hx
 rename_i k m
 refine ⟨k,?_⟩
 rw[hv.aAG,← hx.2]
 congr 1
 omega
theorem aAc {x u:Value} {n m c:Nat} {code:BoundsCode} (hx:asN x=some n) (hv:VR φ x u) (hm:n≤m) (hc:m≤c):(Instr.sliceBound u c code).run P w = .ok n w:=by
 obtain ⟨k,rfl⟩:=aKe hx hv
 have:(n:Int)≤(c:Int):=by omega
 simp[Instr.sliceBound,asIntOf,this]
def OpR (φ:Phi):Option Value→Option Value→Prop
 | none,none=>True
 | some x,some u=>VR φ x u
 | _,_=>False
theorem aA0 {len cap cap' l hh m:Nat} {lo hi mx lo' hi' mx':Option Value} {is:Bool} (hb:bounds len cap lo hi mx=some (l,hh,m)) (hc:cap≤cap') (h1:OpR φ lo lo') (h2:OpR φ hi hi') (h3:OpR φ mx mx') :
  ∃ m',(Instr.sliceBounds is len cap' lo' hi' mx').run P w = .ok (l,hh,m') w∧(if mx.isSome then m'=m else m'=cap'∧m=cap)∧l≤hh∧(hi.isSome∨mx.isSome→hh≤m)∧m≤cap∧(hi=none→hh=len):=by
 unfold bounds at hb
 cases mx with
 | none =>
  cases mx' with
  | some=>simp[OpR] at h3
  | none =>
   simp only[Option.isSome_none,Bool.false_eq_true,if_false] at hb ⊢
   cases hi with
   | none =>
    cases hi' with
    | some=>simp[OpR] at h2
    | none =>
     cases lo with
     | none =>
      cases lo' with
      | some=>simp[OpR] at h1
      | none =>
       simp at hb
       obtain ⟨rfl,rfl,rfl⟩:=hb
       exact ⟨cap',by simp[Instr.sliceBounds],⟨rfl,rfl⟩,by omega,by simp,by omega,fun _=>rfl⟩
     | some x =>
      cases lo' with
      | none=>simp[OpR] at h1
      | some u =>
       simp only[Option.bind_eq_some_iff] at hb
       cases hx:asN x with
       | none=>simp[hx] at hb
       | some n =>
        simp only[hx,Option.bind_some] at hb
        split at hb
        case h_1=>cases hb
        rename_i q hq
        split at hq
        case isFalse=>cases hq
        cases hq
        cases hb
        exact ⟨cap',by simp[Instr.sliceBounds,aAc hx h1 (by assumption) (Nat.le_refl _)],⟨rfl,rfl⟩,by omega,by simp,by omega,fun _=>rfl⟩
   | some y =>
    cases hi' with
    | none=>simp[OpR] at h2
    | some z =>
     cases hy:asN y with
     | none=>simp[hy] at hb
     | some n2 =>
      simp only[hy,Option.bind_some] at hb
      by_cases hle:n2≤cap
      ·simp only[hle,if_true] at hb
       have hrun2:∀ code,(Instr.sliceBound z cap' code).run P w = .ok n2 w:=fun code=>aAc hy h2 hle hc
       cases lo with
       | none =>
        cases lo' with
        | some=>simp[OpR] at h1
        | none =>
         simp at hb
         obtain ⟨rfl,rfl,rfl⟩:=hb
         exact ⟨cap',by simp[Instr.sliceBounds,hrun2],⟨rfl,rfl⟩,by omega,fun _=>hle,by omega,by simp⟩
       | some x =>
        cases lo' with
        | none=>simp[OpR] at h1
        | some u =>
         cases hx:asN x with
         | none=>simp[hx] at hb
         | some n =>
          simp only[hx,Option.bind_some] at hb
          split at hb
          case h_1=>cases hb
          rename_i q hq
          split at hq
          case isFalse=>cases hq
          cases hq
          cases hb
          exact ⟨cap',by simp[Instr.sliceBounds,hrun2,aAc hx h1 (by assumption) (Nat.le_refl _)],⟨rfl,rfl⟩,by omega,fun _=>hle,by omega,by simp⟩
      ·simp[hle] at hb
 | some xm =>
  cases mx' with
  | none=>simp[OpR] at h3
  | some um =>
   cases hm:asN xm with
   | none=>simp[hm] at hb
   | some n3 =>
    simp only[hm,Option.bind_some] at hb
    by_cases hle3:n3≤cap
    ·simp only[hle3,if_true] at hb
     have hrun3:∀ code,(Instr.sliceBound um cap' code).run P w = .ok n3 w:=fun code=>aAc hm h3 hle3 hc
     simp only[Option.isSome_some,if_true] at hb ⊢
     cases hi with
     | none=>simp at hb
     | some y =>
      cases hi' with
      | none=>simp[OpR] at h2
      | some z =>
       cases hy:asN y with
       | none=>simp[hy] at hb
       | some n2 =>
        simp only[hy,Option.bind_some] at hb
        by_cases hle:n2≤n3
        ·simp only[hle,if_true] at hb
         have hrun2:∀ code,(Instr.sliceBound z n3 code).run P w = .ok n2 w:=fun code=>aAc hy h2 hle (Nat.le_refl _)
         cases lo with
         | none =>
          cases lo' with
          | some=>simp[OpR] at h1
          | none =>
           simp at hb
           obtain ⟨rfl,rfl,rfl⟩:=hb
           exact ⟨n3,by simp[Instr.sliceBounds,hrun2,hrun3],rfl,by omega,fun _=>hle,by omega,by simp⟩
         | some x =>
          cases lo' with
          | none=>simp[OpR] at h1
          | some u =>
           cases hx:asN x with
           | none=>simp[hx] at hb
           | some n =>
            simp only[hx,Option.bind_some] at hb
            split at hb
            case h_1=>cases hb
            rename_i q hq
            split at hq
            case isFalse=>cases hq
            cases hq
            cases hb
            exact ⟨m,by simp[Instr.sliceBounds,hrun2,hrun3,aAc hx h1 (by assumption) (Nat.le_refl _)],rfl,by omega,fun _=>hle,by omega,by simp⟩
        ·simp[hle] at hb
    ·simp[hle3] at hb
end
section
variable {P:Program} {φ:Phi} {e:Env} {a:Act} {h h':Hp} {w:World} {v:Value} {o:Oper}
theorem aAX {x:Option Operand} {y:Option X} (hc:cxo x=some y) (he:ER φ e a):OpR φ (y.map (·.ev e)) (x.map a.eval):=by
 cases x with
 | none=>simp[cxo] at hc; subst hc; exact trivial
 | some x =>
  simp only[cxo,Option.map_eq_some_iff] at hc
  obtain ⟨z,hz,rfl⟩:=hc
  exact aI hz he
theorem aII {t:TypeId} {x:Operand} {lo hi:Option Operand} {x':X} {lo' hi':Option X} (ht:P.underlying t=some .string) (hx:VR φ (x'.ev e) (a.eval x)) (hlo:cxo lo=some lo') (hhi:cxo hi=some hi') (he:ER φ e a)
  (ho:o.op = .slice t x lo hi none) (hr:HR φ h w) (hv:opV e h (.sls x' lo' hi')=some (v,h')):Good ((execOp a.eval o).run P w) φ h w v h':=by
 simp only[opV] at hv
 split at hv
 case h_2=>cases hv
 rename_i s hs
 simp only[Option.map_eq_some_iff] at hv
 obtain ⟨⟨l,k,m⟩,hb,heq⟩:=hv
 cases heq
 obtain ⟨m',hrun,_⟩:=aA0 (P:=P) (w:=w) (is:=false) hb (Nat.le_refl _) (aAX hlo he) (aAX hhi he) (mx':=none) trivial
 rw[hs] at hx
 simp only[execOp,ho,hx.aAe]
 refine .pure _ hr (u := .string (s.extract l k)) ?_ (.str _)
 simp[Instr.sliceAt,Instr.slice,aF ht,hrun]
theorem aM7 {t el:TypeId} {x:Operand} {lo hi mx:Option Operand} {x':X} {lo' hi'' mx':Option X} {i:TypeInfo} (ht:P.underlying t=some (.slice el)) (hi':P.info? el=some i) (hx:VR φ (x'.ev e) (a.eval x))
  (hlo:cxo lo=some lo') (hhi:cxo hi=some hi'') (hmx:cxo mx=some mx') (he:ER φ e a)
  (ho:o.op = .slice t x lo hi mx) (hr:HR φ h w) (hv:opV e h (.sl i.size x' lo' hi'' mx')=some (v,h')):Good ((execOp a.eval o).run P w) φ h w v h':=by
 simp only[opV,Option.map_eq_some_iff] at hv
 obtain ⟨r,hv,heq⟩:=hv
 cases heq
 unfold aA3 at hv
 split at hv
 case h_2=>cases hv
 rename_i ad len cap hs
 split at hv
 case h_1=>cases hv
 rename_i l k m hb
 rw[hs] at hx
 simp only[execOp,ho]
 generalize a.eval x=xu at *
 cases hx with
 | snil n c =>
  simp only[Option.some.injEq] at hv
  subst hv
  obtain ⟨m',hrun,hm,_⟩:=aA0 (P:=P) (w:=w) (is:=true) hb (Nat.le_refl _) (aAX hlo he) (aAX hhi he) (aAX hmx he)
  have hmm:m'=m:=by split at hm<;>omega
  subst hmm
  refine .pure _ hr (u := .slice none (k-l) (m'-l)) ?_ (.snil _ _)
  simp[Instr.sliceAt,Instr.slice,aF ht,hrun,aH hi']
 | @sl b1 b1' m1 off n c hφ =>
  simp only[Option.some.injEq] at hv
  subst hv
  obtain ⟨m',hrun,hm,_⟩:=aA0 (P:=P) (w:=w) (is:=true) hb (Nat.le_refl _) (aAX hlo he) (aAX hhi he) (aAX hmx he)
  have hmm:m'=m:=by split at hm<;>omega
  subst hmm
  refine .pure _ hr (u := .slice (some (if m'=l then ⟨b1',off,none⟩ else ⟨b1',off+l*i.size,none⟩)) (k-l) (m'-l)) ?_ ?_
  ·by_cases hml:m'=l<;>simp[Instr.sliceAt,Instr.slice,aF ht,hrun,aH hi',hml,addr_add]
  ·by_cases hml:m'=l
   ·simp only[hml,if_true]; exact .sl _ _ _ hφ
   ·simp only[hml,if_false]; exact .sl _ _ _ hφ
 | @slo b1 b1' m1 off off' n c c' e2 hφ hc ho' hn hv' =>
  simp only[] at hv
  split at hv
  case isTrue=>cases hv
  rename_i hee
  have hee:e2=i.size:=by simpa using hee
  subst hee
  by_cases hms:(mx'.map (·.ev e)).isSome=true
  ·obtain ⟨m',hrun,hm,hlk,hkm,hmc,hl0⟩:=aA0 (P:=P) (w:=w) (is:=true) hb hc (aAX hlo he) (aAX hhi he) (aAX hmx he)
   rw[if_pos hms] at hm
   subst hm
   have hkm:=hkm (.inr hms)
   simp only[hms,true_and,if_true] at hv
   by_cases hml:m'=l
   ·subst hml
    simp only[ne_eq,not_true_eq_false,if_false,Option.some.injEq] at hv
    subst hv
    have hk:k-m'=0:=by omega
    refine .pure _ hr (u := .slice (some ⟨b1',off',none⟩) 0 0) ?_ ?_
    ·simp[Instr.sliceAt,Instr.slice,aF ht,hrun,aH hi',hk]
    ·refine .slo _ _ _ _ _ _ hφ (Nat.le_refl _) (fun h0=>absurd h0 (by omega)) (Nat.le_refl _) ?_
     have:off'≤off'+c'*i.size:=Nat.le_add_right _ _
     omega
   ·simp only[ne_eq,hml,not_false_eq_true,if_true,Option.some.injEq] at hv
    subst hv
    have ho2:=ho' (by omega)
    subst ho2
    refine .pure _ hr (u := .slice (some ⟨b1',off'+l*i.size,none⟩) (k-l) (m'-l)) ?_ (.sl _ _ _ hφ)
    simp[Instr.sliceAt,Instr.slice,aF ht,hrun,aH hi',hml,addr_add]
  have hmn:mx'=none:=by
   cases mx' with
   | none=>rfl
   | some q=>simp at hms
  subst hmn
  simp only[Option.map_none,Option.isSome_none,Bool.false_eq_true,false_and,if_false,Option.some.injEq] at hv
  subst hv
  have hmx0:mx=none:=by
   cases mx with
   | none=>rfl
   | some q=>simp[cxo] at hmx
  subst hmx0
  obtain ⟨m',hrun,hm,hlk,hkm,hmc,hl0⟩:=aA0 (P:=P) (w:=w) (is:=true) hb hc (aAX hlo he) (aAX hhi he) (mx':=none) trivial
  simp only[Option.map_none,Option.isSome_none,Bool.false_eq_true,if_false] at hm
  obtain ⟨rfl,rfl⟩:=hm
  have hkc:k≤m:=by
   cases hhi':hi'' with
   | none=>rw[hhi'] at hl0; have:=hl0 rfl; omega
   | some q=>rw[hhi'] at hkm; exact hkm (by simp)
  refine .pure _ hr (u := .slice (some (if m'=l then ⟨b1',off',none⟩ else ⟨b1',off'+l*i.size,none⟩)) (k-l) (m'-l)) ?_ ?_
  ·by_cases hml:m'=l
   ·subst hml; simp[Instr.sliceAt,Instr.slice,aF ht,hrun,aH hi',addr_add]
   ·simp[Instr.sliceAt,Instr.slice,aF ht,hrun,aH hi',hml,addr_add]
  ·by_cases hml:m'=l
   ·simp only[hml,if_true]
    refine .slo _ _ _ _ _ _ hφ (by omega) (by omega) (by omega) ?_
    simp
    have:off'≤off'+m'*i.size:=Nat.le_add_right _ _
    omega
   ·simp only[hml,if_false]
    refine .slo _ _ _ _ _ _ hφ (by omega) (fun hp=>?_) (by omega) ?_
    ·rw[ho' (by omega)]
    ·have:l*i.size+(m'-l)*i.size=m'*i.size:=by
      rw[← Nat.add_mul]; congr 1; omega
     omega
theorem aE5 {t el:TypeId} {x:Operand} {lo hi mx:Option Operand} {x':X} {lo' hi'' mx':Option X} {i:TypeInfo} {n:Nat}
  (ht:P.underlying t=some (.array n el)∨∃ b,P.underlying t=some (.pointer b)∧P.underlying b=some (.array n el)) (hi':P.info? el=some i) (hx:VR φ (x'.ev e) (a.eval x))
  (hlo:cxo lo=some lo') (hhi:cxo hi=some hi'') (hmx:cxo mx=some mx') (he:ER φ e a)
  (ho:o.op = .slice t x lo hi mx) (hr:HR φ h w) (hv:opV e h (.sla n i.size x' lo' hi'' mx')=some (v,h')):Good ((execOp a.eval o).run P w) φ h w v h':=by
 simp only[opV,Option.bind_eq_some_iff,Option.map_eq_some_iff] at hv
 obtain ⟨⟨b,off⟩,hp,⟨l,k,m⟩,hb,heq⟩:=hv
 cases heq
 obtain ⟨b',q,hu,hφ,_⟩:=hx.at hp
 obtain ⟨m',hrun,hm,_⟩:=aA0 (P:=P) (w:=w) (is:=false) hb (Nat.le_refl _) (aAX hlo he) (aAX hhi he) (aAX hmx he)
 have hmm:m'=m:=by split at hm<;>omega
 subst hmm
 simp only[execOp,ho,hu]
 refine .pure _ hr (u := .slice (some (if m'=l then ⟨b',off,none⟩ else ⟨b',off+l*i.size,none⟩)) (k-l) (m'-l)) ?_ ?_
 ·rcases ht with ht | ⟨c,ht,hc⟩
  ·by_cases hml:m'=l<;>simp[Instr.sliceAt,Instr.slice,Instr.sureAddr,aF ht,hrun,aH hi',hml,addr_add]
  ·by_cases hml:m'=l<;>simp[Instr.sliceAt,Instr.slice,asAddr,aF ht,aF hc,hrun,aH hi',hml,addr_add]
 ·by_cases hml:m'=l
  ·simp only[hml,if_true]; exact .sl _ _ _ hφ
  ·simp only[hml,if_false]; exact .sl _ _ _ hφ
def kd4 (d:TypeDesc):Nat:=match d with | .string=>0 | .slice _=>1 | .map .. => 2 | .chan .. => 3 | _=>9
theorem aB4 {t:TypeId} {x:Operand} {x':X} {ty:TypeId} {d:TypeDesc} (ht:P.underlying t=some d)
  (hx:VR φ (x'.ev e) (a.eval x)) (hr:HR φ h w) (hv:opV e h (.len (kd4 d) x')=some (v,h')):Good ((do Pure.pure (Next.value (← Builtin.len_ #[t] ty #[a.eval x])):Sem Next).run P w) φ h w v h':=by
 simp only[opV] at hv
 generalize x'.ev e=xv at *
 generalize a.eval x=xu at *
 cases d<;>simp only[kd4] at hv
 case string =>
  cases xv<;>simp at hv
  obtain ⟨rfl,rfl⟩:=hv
  cases hx
  exact .pure _ hr (u:=goInt _) (by simp[Builtin.len_,aF ht]) (.int _ _)
 case slice =>
  cases xv<;>simp at hv
  obtain ⟨rfl,rfl⟩:=hv
  cases hx<;>exact .pure _ hr (u:=goInt _) (by simp[Builtin.len_,aF ht]) (.int _ _)
 case map =>
  cases xv<;>first | (simp at hv; done) | skip
  rename_i r
  cases r with
  | none =>
   simp at hv
   obtain ⟨rfl,rfl⟩:=hv
   cases hx
   exact .pure _ hr (u:=goInt 0) (by simp[Builtin.len_,aF ht]) (.int _ _)
  | some r =>
   change (match h.get r with | some (.map es)=>some (goInt es.length,h) | _=>none)=some (v,h') at hv
   split at hv
   case h_2=>cases hv
   rename_i es hes
   cases hv
   cases hx with
   | map hφ =>
    obtain ⟨arr,clock,h1,h2,_⟩:=hr.get hes hφ
    have h2':arr.size=es.length:=by simpa using h2
    exact .pure _ hr (u:=goInt es.length) (by simp[Builtin.len_,aF ht,getObj,Sem.run,h1,h2']) (.int _ _)
 case chan =>
  cases xv<;>first | (simp at hv; done) | skip
  rename_i r
  cases r with
  | none=>simp at hv
  | some r =>
   change (match h.get r with | some (.chan _ buf)=>some (goInt buf.length,h) | _=>none)=some (v,h') at hv
   split at hv
   case h_2=>cases hv
   rename_i cap buf hes
   cases hv
   cases hx with
   | chan hφ =>
    obtain ⟨arr,s,q,h1,h2⟩:=hr.get hes hφ
    have h2':arr.size=buf.length:=by have:=h2.1; simp at this; omega
    exact .pure _ hr (u:=goInt buf.length) (by simp[Builtin.len_,aF ht,getObj,Sem.run,h1,h2']) (.int _ _)
 all_goals simp at hv
theorem aDh {d:Nat} {xs ys us zs:List Value} {n m:Nat} (hx:LR φ xs us) (hy:LR φ ys zs) (ih:∀ t ty x y u z b,aBz P n t=some ty→bD m ty x y=some b→VR φ x u→VR φ y z→(Op.equalIn d t u z).run P w = .ok b w) :
  ∀ (fs:List Field) (ps:List (Nat×Nat×Bool×Ty)) (b:Bool),
   (fs.mapM fun f=>if f.name = "_" then none else (aT P f.type).bind fun a=>(aBz P n f.type).map fun ty=>(f.offset,P.cellsOf f.type,a,ty))=some ps →
   aA6 (bD m) xs ys ps=some b→(Op.eqFields d us.toArray zs.toArray fs).run P w = .ok b w:=by
 intro fs
 induction fs with
 | nil =>
  intro ps b hp hb
  simp at hp
  subst hp
  simp[aA6] at hb
  subst hb
  simp[Op.eqFields]
 | cons f fs ihf =>
  intro ps b hp hb
  simp only[List.mapM_cons] at hp
  obtain ⟨q,hq,hp⟩:=Option.bind_eq_some_iff.1 hp
  obtain ⟨qs,hqs,hp⟩:=Option.bind_eq_some_iff.1 hp
  cases hp
  split at hq
  case isTrue=>cases hq
  rename_i hname
  obtain ⟨is,his,hq⟩:=Option.bind_eq_some_iff.1 hq
  obtain ⟨ty,hty,hq⟩:=Option.map_eq_some_iff.1 hq
  subst hq
  simp only[aA6] at hb
  have hpart:∀ (c d:List Value) (x:Value),LR φ c d→(if is=true then some (Value.agg ((c.drop f.offset).take (P.cellsOf f.type)).toArray) else c[f.offset]?)=some x →
    ∃ u,(part f.type d.toArray f.offset).run P w = .ok u w∧VR φ x u:=by
   intro c d x hcd hx
   cases is with
   | true =>
    simp only[if_true,Option.some.injEq] at hx
    subst hx
    refine ⟨_,aA5 his,?_⟩
    rw[extract_eq]
    exact VR.aH2 ((hcd.drop _).take _)
   | false =>
    simp only[Bool.false_eq_true,if_false] at hx
    obtain ⟨u,hu,hv⟩:=hcd.get hx
    exact ⟨u,aAU his (by simpa using hu),hv⟩
  split at hb
  case h_2=>cases hb
  rename_i x y ex ey
  obtain ⟨u,hu,hvu⟩:=hpart xs us x hx ex
  obtain ⟨z,hz,hvz⟩:=hpart ys zs y hy ey
  simp only[Op.eqFields,ne_eq,hname,not_false_eq_true,if_true,Sem.run_bind,hu,hz,Result.andThen_ok]
  split at hb
  ·rename_i he
   rw[ih _ _ _ _ _ _ _ hty he hvu hvz]
   simp only[Result.andThen_ok,Bool.not_true,Bool.false_eq_true,if_false]
   exact ihf qs b hqs hb
  ·rename_i he
   cases hb
   rw[ih _ _ _ _ _ _ _ hty he hvu hvz]
   simp
  ·cases hb
theorem run_equalIn_array {d len:Nat} {t el:TypeId} {i:TypeInfo} {xs ys:Array Value} (ht:P.underlying t=some (.array len el)) (hi:P.info? el=some i) :
  (Op.equalIn (d+1) t (.agg xs) (.agg ys)).run P w =
   ((forIn (List.range' 0 len) (none,()) fun k (r:Option Bool×Unit)=>(do
    if !(← Op.equalIn d el (← part el xs (k*i.size)) (← part el ys (k*i.size))) then Pure.pure (ForInStep.done (some false,())) else Pure.pure (ForInStep.yield (none,())):Sem (ForInStep (Option Bool×Unit)))).run P w).andThen
    fun r w'=>(match r.1 with | none=>Pure.pure true | some b=>Pure.pure b:Sem Bool).run P w':=by
 simp only[Op.equalIn,Sem.run_bind,aF ht,Result.andThen_ok,aH hi]
 rw[Std.Legacy.Range.forIn_eq_forIn_range']
 simp only[Std.Legacy.Range.size,Nat.sub_zero,Nat.add_sub_cancel,Nat.div_one]
 congr 1
 funext r w'
 rcases r with ⟨_ | b,u⟩<;>rfl
theorem aFG {d:Nat} {el:TypeId} {i:TypeInfo} {is:Bool} {ty:Ty} {xs ys us zs:List Value} {m:Nat} (hx:LR φ xs us) (hy:LR φ ys zs) (hi:P.info? el=some i) (his:aT P el=some is)
  (ih:∀ x y u z b,bD m ty x y=some b→VR φ x u→VR φ y z→(Op.equalIn d el u z).run P w = .ok b w) :
  ∀ (n k:Nat) (b:Bool),aA6 (bD m) xs ys ((List.range' k n).map fun j=>(j*i.size,i.size,is,ty))=some b →
   ∃ r:Option Bool,(forIn (List.range' k n) (none,()) fun k (r:Option Bool×Unit)=>(do
    if !(← Op.equalIn d el (← part el us.toArray (k*i.size)) (← part el zs.toArray (k*i.size))) then Pure.pure (ForInStep.done (some false,())) else Pure.pure (ForInStep.yield (none,())):Sem (ForInStep (Option Bool×Unit)))).run P w = .ok (r,()) w∧r.getD true=b:=by
 intro n
 induction n with
 | zero =>
  intro k b hb
  simp[aA6] at hb
  subst hb
  exact ⟨none,by simp,rfl⟩
 | succ n ihn =>
  intro k b hb
  simp only[List.range'_succ,List.map_cons,aA6] at hb
  have hpart:∀ (c d:List Value) (x:Value),LR φ c d→(if is=true then some (Value.agg ((c.drop (k*i.size)).take i.size).toArray) else c[k*i.size]?)=some x →
    ∃ u,(part el d.toArray (k*i.size)).run P w = .ok u w∧VR φ x u:=by
   intro c d x hcd hx
   cases is with
   | true =>
    simp only[if_true,Option.some.injEq] at hx
    subst hx
    refine ⟨_,aA5 his,?_⟩
    rw[extract_eq,aA4 hi]
    exact VR.aH2 ((hcd.drop _).take _)
   | false =>
    simp only[Bool.false_eq_true,if_false] at hx
    obtain ⟨u,hu,hv⟩:=hcd.get hx
    exact ⟨u,aAU his (by simpa using hu),hv⟩
  split at hb
  case h_2=>cases hb
  rename_i x y ex ey
  obtain ⟨u,hu,hvu⟩:=hpart xs us x hx ex
  obtain ⟨z,hz,hvz⟩:=hpart ys zs y hy ey
  simp only[List.range'_succ,List.forIn_cons,Sem.run_bind,hu,hz,Result.andThen_ok]
  split at hb
  ·rename_i he
   rw[ih _ _ _ _ _ he hvu hvz]
   simp only[Result.andThen_ok,Bool.not_true,Bool.false_eq_true,if_false,Sem.run_pure]
   exact ihn (k+1) b hb
  ·rename_i he
   cases hb
   rw[ih _ _ _ _ _ he hvu hvz]
   exact ⟨some false,by simp,rfl⟩
  ·cases hb
theorem aCK:∀ (n:Nat) (d m:Nat) (t:TypeId) (ty:Ty) (x y u z:Value) (b:Bool),n≤d→aBz P n t=some ty→bD m ty x y=some b→VR φ x u→VR φ y z →
  (Op.equalIn d t u z).run P w = .ok b w:=by
 intro n
 induction n with
 | zero=>intro d m t ty x y u z b _ ht; simp[aBz] at ht
 | succ n ih =>
  intro d m t ty x y u z b hd ht hb hx hy
  obtain ⟨d,rfl⟩:∃ k,d=k+1:=⟨d-1,by omega⟩
  cases m with
  | zero=>simp[bD] at hb
  | succ m =>
  unfold aBz at ht
  split at ht
  ·rename_i hu
   cases ht
   cases x<;>cases y<;>simp[bD] at hb
   subst hb
   rw[hx.aAM,hy.aAM]
   exact run_equalIn_bool' w d t _ _ hu
  ·rename_i k hu
   cases ht
   cases x<;>cases y<;>simp[bD] at hb
   obtain ⟨⟨rfl,rfl⟩,rfl⟩:=hb
   rw[hx.aAG,hy.aAG]
   exact run_equalIn_int w d t _ _ _ _ hu
  ·rename_i hu
   cases ht
   cases x<;>cases y<;>simp[bD] at hb
   subst hb
   rw[hx.aAe,hy.aAe,run_equalIn_string w d t _ _ hu,beq_toListBytes]
  ·rename_i fs hu
   split at ht
   case isTrue=>cases ht
   rename_i hst
   obtain ⟨ps,hps,rfl⟩:=Option.map_eq_some_iff.1 ht
   cases x<;>cases y<;>simp only[bD] at hb
   case agg.agg xs ys =>
    obtain ⟨us,rfl,hlx⟩:=hx.aAO
    obtain ⟨zs,rfl,hly⟩:=hy.aAO
    have hf:P.fieldsOf t=fs:=by simp[Program.fieldsOf,hu]
    rw[run_equalIn_struct w d t us zs (by rw[hf]; exact hu) (by simpa using hst),hf]
    have:=aDh (P:=P) (w:=w) (d:=d) (n:=n) (m:=m) hlx hly (fun t ty x y u z b h1 h2 h3 h4=>ih d m t ty x y u z b (by omega) h1 h2 h3 h4) fs.toList ps b hps hb
    simpa using this
   all_goals (cases hb)
  ·rename_i len el hu
   obtain ⟨is,his,ht⟩:=Option.bind_eq_some_iff.1 ht
   obtain ⟨tye,htye,rfl⟩:=Option.map_eq_some_iff.1 ht
   cases x<;>cases y<;>simp only[bD] at hb
   case agg.agg xs ys =>
    obtain ⟨us,rfl,hlx⟩:=hx.aAO
    obtain ⟨zs,rfl,hly⟩:=hy.aAO
    obtain ⟨i,hi⟩:∃ i,P.info? el=some i:=by
     unfold aT at his
     cases hue:P.underlying el with
     | none=>simp[hue] at his
     | some de=>exact info_of_underlying hue
    rw[run_equalIn_array hu hi]
    rw[aA4 hi,List.range_eq_range'] at hb
    obtain ⟨r,hr1,hr2⟩:=aFG (P:=P) (w:=w) (d:=d) hlx hly hi his (fun x y u z b h1 h2 h3=>ih d m el tye x y u z b (by omega) htye h1 h2 h3) len 0 b hb
    simp only[Array.toArray_toList] at hr1
    rw[hr1]
    cases r<;>simp at hr2<;>subst hr2<;>rfl
   all_goals (cases hb)
  ·cases ht
theorem aBY {op:BinOp} {neg:Bool} {t yt:TypeId} {ty:Ty} {x y:Operand} {x' y':X} (ht:aBz P 20 t=some ty) (hd:(∃ fs,P.underlying t=some (.struct fs))∨(∃ n e,P.underlying t=some (.array n e)))
  (hg:P.eqGuardType P.depth t=false) (hop:op=if neg then .neq else .eql) (hx:VR φ (x'.ev e) (a.eval x)) (hy:VR φ (y'.ev e) (a.eval y))
  (ho:o.op = .binOp op t x y yt) (hr:HR φ h w) (hv:opV e h (.eqt neg ty x' y')=some (v,h')):Good ((execOp a.eval o).run P w) φ h w v h':=by
 simp only[opV,Option.map_eq_some_iff] at hv
 obtain ⟨b,hb,heq⟩:=hv
 cases heq
 have hE:=aCK (P:=P) (w:=w) 20 10000 20 t ty _ _ _ _ b (by omega) ht hb hx hy
 have haggs:∃ us zs,a.eval x = .agg us∧a.eval y = .agg zs:=by
  have hagg:∃ ps,ty = .agg ps:=by
   unfold aBz at ht
   rcases hd with ⟨fs,hu⟩ | ⟨n,el,hu⟩
   ·simp only[hu] at ht
    split at ht
    ·cases ht
    ·obtain ⟨ps,_,rfl⟩:=Option.map_eq_some_iff.1 ht; exact ⟨_,rfl⟩
   ·simp only[hu] at ht
    obtain ⟨is,_,ht⟩:=Option.bind_eq_some_iff.1 ht
    obtain ⟨tye,_,rfl⟩:=Option.map_eq_some_iff.1 ht
    exact ⟨_,rfl⟩
  obtain ⟨ps,rfl⟩:=hagg
  generalize x'.ev e=xv at *
  generalize y'.ev e=yv at *
  cases xv<;>cases yv<;>simp[eqV,bD] at hb
  obtain ⟨us,h1,_⟩:=hx.aAO
  obtain ⟨zs,h2,_⟩:=hy.aAO
  exact ⟨us,zs,h1,h2⟩
 obtain ⟨us,zs,h1,h2⟩:=haggs
 simp only[execOp,ho]
 refine .pure _ hr (u := .bool (b != neg)) ?_ (.bool _)
 rw[h1,h2] at hE ⊢
 rw[aEA,run_eqGuard_agg w op t x y us zs hg]
 simp only[Result.andThen_ok]
 cases neg<;>simp only[Bool.false_eq_true,if_false,if_true] at hop<;>subst hop
 ·rw[run_eql_struct,hE]; simp
 ·rw[run_neq_struct,hE]; simp
end
section
variable {P:Program} {φ:Phi} {e:Env} {a:Act} {h h':Hp} {w:World} {v:Value} {o:Oper}
theorem aL4 {x y:Operand} {x' y':X} {ty:TypeId} {ts:Array TypeId} (hx:VR φ (x'.ev e) (a.eval x)) (hy:VR φ (y'.ev e) (a.eval y)) (hr:HR φ h w) (hv:opV e h (.mx x' y')=some (v,h')) :
  Good ((do Pure.pure (Next.value (← Builtin.max_ ts ty #[a.eval x,a.eval y])):Sem Next).run P w) φ h w v h':=by
 simp only[opV] at hv
 split at hv
 case h_2=>cases hv
 rename_i k m j n e1 e2
 split at hv
 case isFalse=>cases hv
 rename_i hk
 subst hk
 cases hv
 rw[e1] at hx
 rw[e2] at hy
 rw[hx.aAG,hy.aAG]
 exact .pure _ hr (u := .int k (if n>m then n else m)) (by simp[Builtin.max_,Builtin.max2]) (.int _ _)
theorem aLz {x y:Operand} {x' y':X} {ty:TypeId} {ts:Array TypeId} (hx:VR φ (x'.ev e) (a.eval x)) (hy:VR φ (y'.ev e) (a.eval y)) (hr:HR φ h w) (hv:opV e h (.mn x' y')=some (v,h')) :
  Good ((do Pure.pure (Next.value (← Builtin.min_ ts ty #[a.eval x,a.eval y])):Sem Next).run P w) φ h w v h':=by
 simp only[opV] at hv
 split at hv
 case h_2=>cases hv
 rename_i k m j n e1 e2
 split at hv
 case isFalse=>cases hv
 rename_i hk
 subst hk
 cases hv
 rw[e1] at hx
 rw[e2] at hy
 rw[hx.aAG,hy.aAG]
 exact .pure _ hr (u := .int k (if n<m then n else m)) (by simp[Builtin.min_,Builtin.min2]) (.int _ _)
theorem aE4 {x u:Value} {n:Nat} (hx:VR φ x u) (hl:lenV x=some n):(Builtin.lenOf u).run P w = .ok n w:=by
 cases hx<;>simp[lenV] at hl<;>subst hl<;>simp[Builtin.lenOf]
theorem aEK {x u:Value} {n sz:Nat} {es:List Value} (hx:VR φ x u) (hr:HR φ h w) (he:elems h sz n x=some es) (hn:∃ m,lenV x=some m∧n≤m) :
  ∃ us,(∀ w':World,w'.heap=w.heap→(Builtin.firstCells sz n u).run P w' = .ok us w')∧LR φ es us.toList:=by
 cases hx<;>simp only[elems] at he
 case str s =>
  cases he
  refine ⟨_,fun w' _=>by simp only[Builtin.firstCells,Sem.run_pure]; rfl,?_⟩
  rw[Array.toList_map]
  exact .map _ _ _ fun x _ => .int _ _
 case snil=>cases he; exact ⟨#[],fun w' _=>by simp[Builtin.firstCells],.nil _⟩
 case sl b b' m off k c hφ =>
  obtain ⟨us,h1,h2,_,_⟩:=hr.rdn (P:=P) he hφ
  exact ⟨us.toArray,fun w' hh=>by simpa[Builtin.firstCells] using h1 w' hh,by simpa using h2⟩
 case slo b b' m off off' k c c' e2 hφ hc ho hn' hv =>
  obtain ⟨mm,hm,hle⟩:=hn
  simp[lenV] at hm
  subst hm
  by_cases h0:0<c
  ·have:=ho h0
   subst this
   obtain ⟨us,h1,h2,_,_⟩:=hr.rdn (P:=P) he hφ
   exact ⟨us.toArray,fun w' hh=>by simpa[Builtin.firstCells] using h1 w' hh,by simpa using h2⟩
  ·have hn0:n=0:=by omega
   subst hn0
   simp only[Nat.zero_mul] at he ⊢
   have:es=[]:=by
    unfold Hp.rdn at he
    obtain ⟨cc,_,he⟩:=Option.bind_eq_some_iff.1 he
    split at he
    ·cases he; simp
    ·cases he
   subst this
   exact ⟨#[],fun w' _=>by simp[Builtin.firstCells,loadCells,loadCellsFrom],.nil _⟩
 all_goals cases he
theorem aJE {t el:TypeId} {ts:List TypeId} {ty:TypeId} {x y:Operand} {x' y':X} {i:TypeInfo} (ht:P.underlying t=some (.slice el)) (hi:P.info? el=some i) (hx:VR φ (x'.ev e) (a.eval x)) (hy:VR φ (y'.ev e) (a.eval y)) (hr:HR φ h w)
  (hv:opV e h (.cpy i.size x' y')=some (v,h')):Good ((do Pure.pure (Next.value (← Builtin.copy_ (t::ts).toArray ty #[a.eval x,a.eval y])):Sem Next).run P w) φ h w v h':=by
 simp only[opV,copyV] at hv
 generalize x'.ev e=xv at *
 generalize y'.ev e=yv at *
 generalize a.eval x=xu at *
 generalize a.eval y=yu at *
 split at hv
 case h_2=>cases hv
 rename_i base len cap m hm
 split at hv
 case h_1=>cases hv
 rename_i es hes
 have hlen:=aE4 (P:=P) (w:=w) hy hm
 obtain ⟨us,hfc,hlr⟩:=aEK (P:=P) hy hr hes ⟨m,hm,Nat.min_le_left _ _⟩
 have hfc:=hfc w rfl
 have hmin:m.min len=min m len:=rfl
 cases hx with
 | snil n c =>
  simp only at hv
  split at hv
  case isFalse=>cases hv
  cases hv
  refine .pure _ hr (u:=goInt _) ?_ (.int _ _)
  simp[Builtin.copy_,aF ht,aH hi,hlen,hfc,hmin]
 | @sl b b' q off n c hφ =>
  simp only at hv
  split at hv
  ·rename_i h0
   cases hv
   have hus:us.toList=[]:=by
    have h1:(Builtin.firstCells i.size 0 yu).run P w = .ok us w:=by rw[← h0]; exact hfc
    have hz:es.length=0:=by
     rw[h0] at hes
     cases yv<;>simp[elems] at hes
     ·subst hes; simp
     ·rename_i p _ _
      cases p with
      | none=>simp[elems] at hes; subst hes; rfl
      | some p =>
       simp only[elems,Nat.zero_mul,Hp.rdn] at hes
       obtain ⟨cc,_,hes⟩:=Option.bind_eq_some_iff.1 hes
       split at hes
       ·cases hes; simp
       ·cases hes
    have:=hlr.1
    cases hu:us.toList<;>simp_all
   have hus':us = #[]:=by simpa using hus
   subst hus'
   refine .pure _ hr (u:=goInt _) ?_ (.int _ _)
   simp[Builtin.copy_,aF ht,aH hi,hlen,hfc,hmin,storeCells]
  ·rename_i h0
   simp only[Option.map_eq_some_iff] at hv
   obtain ⟨g,hw,heq⟩:=hv
   cases heq
   obtain ⟨w',hrun,hext⟩:=hr.wr (P:=P) hw hφ hlr
   refine ⟨φ,goInt _,w',.inl (aJ _ ?_),hext,.int _ _⟩
   simp[Builtin.copy_,aF ht,aH hi,hlen,hfc,hmin,hrun]
 | @slo b b' q off off' n c c' e2 hφ hc ho hn hvv =>
  simp only at hv
  split at hv
  ·rename_i h0
   cases hv
   have hus:us = #[]:=by
    have hz:es.length=0:=by
     rw[h0] at hes
     cases yv<;>simp[elems] at hes
     ·subst hes; simp
     ·rename_i p _ _
      cases p with
      | none=>simp[elems] at hes; subst hes; rfl
      | some p =>
       simp only[elems,Nat.zero_mul,Hp.rdn] at hes
       obtain ⟨cc,_,hes⟩:=Option.bind_eq_some_iff.1 hes
       split at hes
       ·cases hes; simp
       ·cases hes
    have:=hlr.1
    have:us.toList.length=0:=by omega
    simpa using this
   subst hus
   refine .pure _ hr (u:=goInt _) ?_ (.int _ _)
   simp[Builtin.copy_,aF ht,aH hi,hlen,hfc,hmin,storeCells]
  ·rename_i h0
   have:=ho (by omega)
   subst this
   simp only[Option.map_eq_some_iff] at hv
   obtain ⟨g,hw,heq⟩:=hv
   cases heq
   obtain ⟨w',hrun,hext⟩:=hr.wr (P:=P) hw hφ hlr
   refine ⟨φ,goInt _,w',.inl (aJ _ ?_),hext,.int _ _⟩
   simp[Builtin.copy_,aF ht,aH hi,hlen,hfc,hmin,hrun]
theorem aCn (n:Nat):∀ (r c:Nat),c≤2*n+1000→Builtin.growBy n r c≤2*n+1000
 | 0,c,hc=>hc
 | r+1,c,hc=>by
  unfold Builtin.growBy
  split
  ·exact hc
  ·exact aCn n r _ (by omega)
theorem nextslicecap_le {n c:Nat} (hc:c<n):Builtin.nextslicecap n c≤2*n+1000:=by
 unfold Builtin.nextslicecap
 split
 ·omega
 ·split
  ·omega
  ·exact aCn n 4 c (by omega)
theorem aA7 {t u el:TypeId} {ty:TypeId} {i:TypeInfo} {d:TypeDesc} {zv:Value} {base:Option Addr} {yu:Value} {len cap n:Nat} {old us:Array Value}
  (ht:P.underlying t=some (.slice el)) (hu:P.underlying u=some d) (hd:∀ k,d ≠ .int k) (hi:P.info? el=some i) (hz:i.zero=some zv)
  (hlen:(Builtin.lenOf yu).run P w = .ok n w) (hc:cap<len+n) (hb:(2*(len+n)+1000)*i.bytes≤2^47) (hb2:len+n<2^62)
  (hold:∀ w':World,w'.heap=w.heap→(Builtin.firstCells i.size len (.slice base len cap)).run P w' = .ok old w') (hus:∀ w':World,w'.heap=w.heap→(Builtin.firstCells i.size n yu).run P w' = .ok us w') :
  ∃ (q:Nat) (w':World),len+n≤q∧w'.heap=w.heap∧w'.os=w.os∧w'.tape=w.tape∧w'.output=w.output ∧
   (Builtin.append_ #[t,u] ty #[.slice base len cap,yu]).run P w =
    .ok (.slice (some ⟨w.heap.size,0,none⟩) (len+n) q) { w' with heap:=w.heap.push (.cells (old++us++Builtin.zeroCells zv.cells (q-(len+n))) el) }:=by
 have hzero:(match d with | .int _=>true | _=>false)=false:=by
  cases d<;>first | rfl | (exact absurd rfl (hd _))
 have hnc:=nextslicecap_le (n:=len+n) (c:=cap) hc
 have hmul:Builtin.nextslicecap (len+n) cap*i.bytes≤2^47:=Nat.le_trans (Nat.mul_le_mul_right _ hnc) hb
 have hno1:¬ (((len+n:Nat):Int)>IntKind.i64.max∧i.bytes=0):=by
  have:IntKind.i64.max=9223372036854775807:=by decide
  omega
 have hno2:¬ (Builtin.nextslicecap (len+n) cap*i.bytes>2^48):=by omega
 have hno3:¬ (len+n≤cap):=by omega
 refine ⟨len+n+w.tape w.drawn (.appendCap (len+n) cap el)%(2^63-(len+n)),{ w with drawn:=w.drawn+1 },by omega,rfl,rfl,rfl,rfl,?_⟩
 have h1:=hold { w with drawn:=w.drawn+1 } rfl
 have h2:=hus { w with drawn:=w.drawn+1 } rfl
 unfold Builtin.append_
 simp only[List.getElem?_toArray,List.getElem?_cons_zero,List.getElem?_cons_succ]
 simp only[Sem.run_bind,aF ht,aF hu,aH hi,Result.andThen_ok,Sem.run_pure]
 cases d<;>first
  | exact absurd rfl (hd _)
  | skip
 all_goals
  simp only[Bool.false_eq_true,if_false,hlen,Sem.run_bind,Result.andThen_ok,aAE hi,if_neg hno3,false_or,if_neg hno1,if_neg hno2,run_choose,Question.forced,Question.cut,run_askRoom,h1,Bool.not_false,if_true,h2]
  simp[zeroValue,aAE hi,hz,newRow,h1,h2]
  rfl
theorem aAL {t u el:TypeId} {ty:TypeId} {i:TypeInfo} {d:TypeDesc} {base:Option Addr} {yu:Value} {len cap n:Nat} {us:Array Value}
  (ht:P.underlying t=some (.slice el)) (hu:P.underlying u=some d) (hd:∀ k,d ≠ .int k) (hi:P.info? el=some i)
  (hlen:(Builtin.lenOf yu).run P w = .ok n w) (hc:len+n≤cap) (hus:(Builtin.firstCells i.size n yu).run P w = .ok us w) :
  (Builtin.append_ #[t,u] ty #[.slice base len cap,yu]).run P w =
   (match base with
    | some b=>(storeCells (b.add (len*i.size)) us.toList).run P w
    | none => .ok () w).andThen fun _ w' => .ok (.slice base (len+n) cap) w':=by
 unfold Builtin.append_
 simp only[List.getElem?_toArray,List.getElem?_cons_zero,List.getElem?_cons_succ]
 simp only[Sem.run_bind,aF ht,aF hu,aH hi,Result.andThen_ok,Sem.run_pure]
 cases d<;>first
  | exact absurd rfl (hd _)
  | skip
 all_goals
  simp only[Bool.false_eq_true,if_false,hlen,Sem.run_bind,Result.andThen_ok,if_pos hc,Bool.not_false,if_true,hus]
  cases base<;>simp
theorem aC9 {x:Value} {sz:Nat} {es:List Value} (he:elems h sz 0 x=some es):es=[]:=by
 cases x<;>simp only[elems] at he
 case string s=>cases he; simp
 case slice p _ _ =>
  cases p with
  | none=>simpa[elems] using he
  | some p =>
   simp only[elems,Nat.zero_mul,Hp.rdn] at he
   obtain ⟨cc,_,he⟩:=Option.bind_eq_some_iff.1 he
   split at he
   ·cases he; simp
   ·cases he
 all_goals cases he
theorem aBN (hr:HR φ h w) {c:List Value} {us rest:Array Value} {el:TypeId} (w₁:World) (hw:w₁.heap=w.heap) (hos:w₁.os=w.os) (ht:w₁.tape=w.tape) (ho:w₁.output=w.output) (hl:LR φ c us.toList) :
  ∃ φ',Ext φ h w φ' (h.push (.cells false c)) { w₁ with heap:=w.heap.push (.cells (us++rest) el) }∧φ' h.next=some (w.heap.size,us.size+rest.size):=by
 refine ⟨ups φ h.next (w.heap.size,us.size+rest.size),.alloc .next hr _ (.cells (us++rest) el) _ rfl hos ht ho ⟨us++rest,el,(0,0),by simp,by simp,?_,?_,fun _ => .inl rfl⟩,by simp[ups]⟩
 ·have:=hl.1; simp at this; omega
 ·have h1:=hl.1
  rw[Array.toList_append,List.take_append_of_le_length (by omega),h1,List.take_of_length_le (Nat.le_refl _)]
  refine hl.mono fun b x hb=>?_
  unfold ups
  split
  ·rename_i e; subst e; rw[hr.fresh _ (Nat.le_refl _)] at hb; cases hb
  ·exact hb
theorem aAS (z:Array Value) (n:Nat):(Builtin.zeroCells z n).size=n*z.size:=by simp[Builtin.zeroCells]
theorem HR.heap {w':World} (hh:w'.heap=w.heap) (r:HR φ h w):HR φ h w' :=
 ⟨fun b o hb=>let ⟨b',n,h1,h2⟩:=r.live b o hb; ⟨b',n,h1,h2.mono (.refl _) (by rw[hh])⟩,r.inj,r.fresh⟩
set_option maxHeartbeats 2000000 in
theorem aIO {t u el:TypeId} {ty:TypeId} {x y:Operand} {x' y':X} {i:TypeInfo} {d:TypeDesc} {zv:Value} (ht:P.underlying t=some (.slice el)) (hu:P.underlying u=some d) (hd:∀ k,d ≠ .int k) (hi:P.info? el=some i)
  (hz:i.zero=some zv) (hzs:zv.cells.size=i.size)
  (hx:VR φ (x'.ev e) (a.eval x)) (hy:VR φ (y'.ev e) (a.eval y)) (hr:HR φ h w)
  (hv:opV e h (.app i.size i.bytes x' y')=some (v,h')):Good ((do Pure.pure (Next.value (← Builtin.append_ #[t,u] ty #[a.eval x,a.eval y])):Sem Next).run P w) φ h w v h':=by
 simp only[opV,aAI] at hv
 generalize x'.ev e=xv at *
 generalize y'.ev e=yv at *
 generalize a.eval x=xu at *
 generalize a.eval y=yu at *
 split at hv
 case h_2=>cases hv
 rename_i base len cap n hn
 split at hv
 case h_1=>cases hv
 rename_i es hes
 split at hv
 case isFalse=>cases hv
 rename_i hsz
 have hlen:=aE4 (P:=P) (w:=w) hy hn
 obtain ⟨us,hus,hlr⟩:=aEK (P:=P) hy hr hes ⟨n,hn,Nat.le_refl _⟩
 have hussz:us.size=n*i.size:=by have:=hlr.1; simp at this; omega
 split at hv
 ·
  rename_i hle
  cases hx with
  | snil _ _ =>
   simp only at hv
   split at hv
   case isFalse=>cases hv
   rename_i h0
   cases hv
   subst h0
   refine .pure _ hr (u := .slice none (len+0) cap) ?_ (.snil _ _)
   rw[aAL ht hu hd hi hlen hle (hus w rfl)]
   rfl
  | @sl b b' q off _ _ hφ =>
   simp only[if_true] at hv
   split at hv
   ·rename_i h0
    cases hv
    subst h0
    have:=aC9 hes
    subst this
    have hu0:us.toList=[]:=by have:=hlr.1; cases hh:us.toList<;>simp_all
    refine .pure _ hr (u := .slice (some ⟨b',off,none⟩) (len+0) cap) ?_ (.sl _ _ _ hφ)
    rw[aAL ht hu hd hi hlen hle (hus w rfl),hu0]
    rfl
   ·obtain ⟨g,hw,heq⟩:=Option.map_eq_some_iff.1 hv
    cases heq
    obtain ⟨w',hrun,hext⟩:=hr.wr (P:=P) hw hφ hlr
    refine ⟨φ,.slice (some ⟨b',off,none⟩) (len+n) cap,w',.inl (aJ _ ?_),hext,.sl _ _ _ (hext.sub _ _ hφ)⟩
    rw[aAL ht hu hd hi hlen hle (hus w rfl)]
    simp only[addr_add,hrun,Result.andThen_ok]
  | @slo b b' q off off' _ _ c' e2 hφ hc ho hnn hvv =>
   simp only at hv
   split at hv
   ·rename_i h0
    cases hv
    subst h0
    have:=aC9 hes
    subst this
    have hu0:us.toList=[]:=by have:=hlr.1; cases hh:us.toList<;>simp_all
    refine .pure _ hr (u := .slice (some ⟨b',off',none⟩) (len+0) c') ?_ (.slo _ _ _ _ _ _ hφ hc ho hnn hvv)
    rw[aAL ht hu hd hi hlen (by omega) (hus w rfl),hu0]
    rfl
   ·rename_i h0
    split at hv
    case isFalse=>cases hv
    obtain ⟨g,hw,heq⟩:=Option.map_eq_some_iff.1 hv
    cases heq
    have:=ho (by omega)
    subst this
    obtain ⟨w',hrun,hext⟩:=hr.wr (P:=P) hw hφ hlr
    refine ⟨φ,.slice (some ⟨b',off',none⟩) (len+n) c',w',.inl (aJ _ ?_),hext,.slo _ _ _ _ _ _ (hext.sub _ _ hφ) hc ho hle hvv⟩
    rw[aAL ht hu hd hi hlen (by omega) (hus w rfl)]
    simp only[addr_add,hrun,Result.andThen_ok]
 ·rename_i hgt
  split at hv
  case isFalse=>cases hv
  rename_i hb
  obtain ⟨hb1,hb2⟩:=hb
  have hnew:∀ {q:Nat} (b2 len':Nat),True:=fun _ _=>trivial
  cases hx with
  | snil _ _ =>
   simp only at hv
   split at hv
   case isFalse=>cases hv
   rename_i h0
   cases hv
   subst h0
   obtain ⟨q,w1,hq,e1,e2,e3,e4,hrun⟩:=aA7 (ty:=ty) (zv:=zv) ht hu hd hi hz hlen (len:=0) (cap:=cap) (by omega) hb1 hb2 (old := #[]) (us:=us) (base:=none) (fun w' _=>by simp[Builtin.firstCells]) hus
   obtain ⟨φ',hext,hφ⟩:=aBN (rest:=Builtin.zeroCells zv.cells (q-(0+n))) (el:=el) hr w1 e1 e2 e3 e4 hlr
   refine ⟨φ',.slice (some ⟨w.heap.size,0,none⟩) (0+n) q,_,.inl (aJ _ hrun),?_,?_⟩
   ·simpa using hext
   ·rw[Nat.zero_add] at *
    refine .slo _ _ _ _ _ _ hφ hq (fun _=>rfl) (Nat.le_refl _) ?_
    rw[aAS,hussz,hzs,Nat.sub_mul]
    have:=Nat.mul_le_mul_right i.size hq
    omega
  | @sl b b' m off _ _ hφ =>
   simp only at hv
   split at hv
   case h_1=>cases hv
   rename_i old hold
   cases hv
   obtain ⟨os,ho1,ho2,ho3,_⟩:=hr.rdn (P:=P) hold hφ
   obtain ⟨q,w1,hq,e1,e2,e3,e4,hrun⟩:=aA7 (ty:=ty) (zv:=zv) ht hu hd hi hz hlen (len:=len) (cap:=cap) (by omega) hb1 hb2 (old:=os.toArray) (us:=us) (base:=some ⟨b',off,none⟩) (fun w' hh=>by simpa[Builtin.firstCells] using ho1 w' hh) hus
   obtain ⟨φ',hext,hφ'⟩:=aBN (us:=os.toArray++us) (rest:=Builtin.zeroCells zv.cells (q-(len+n))) (el:=el) hr w1 e1 e2 e3 e4 (by simpa using ho2.append hlr)
   refine ⟨φ',.slice (some ⟨w.heap.size,0,none⟩) (len+n) q,_,.inl (aJ _ hrun),hext,?_⟩
   refine .slo _ _ _ _ _ _ hφ' hq (fun _=>rfl) (Nat.le_refl _) ?_
   have hos:os.length=len*i.size:=by have:=ho2.1; omega
   rw[aAS,Array.size_append,List.size_toArray,hussz,hzs,hos,Nat.sub_mul]
   have:=Nat.mul_le_mul_right i.size hq
   rw[Nat.add_mul] at this ⊢
   omega
  | @slo b b' m off off' _ _ c' e2 hφ hc ho hnn hvv =>
   simp only at hv
   split at hv
   case h_1=>cases hv
   rename_i old hold
   split at hv
   case isFalse=>cases hv
   rename_i hcond
   obtain ⟨rfl,hoff,hcap,hone⟩:=hcond
   have:=ho hcap
   subst this
   subst hoff
   split at hv
   case h_2=>cases hv
   rename_i cc hgc
   cases hv
   obtain ⟨os,ho1,ho2,ho3,ho4⟩:=hr.rdn (P:=P) hold hφ
   have hos:os.length=len*i.size:=by have:=ho2.1; omega
   have hHR:HR φ (h.put b none) w:=hr.less (Nat.le_refl _) fun c o hc=>by
    simp only[Hp.put] at hc
    split at hc
    ·cases hc
    ·exact hc
   by_cases hin:len+n≤c'
   ·
    obtain ⟨arr,elem,fr,g1,g2,g3,g4,g5⟩:=hr.get hgc hφ
    have hlen':len*i.size+us.toList.length≤arr.size:=by
     have h1:=Nat.mul_le_mul_right i.size hin
     rw[Nat.add_mul] at h1
     simp only[Array.length_toList]
     omega
    have hst:=run_storeCells_cells (P:=P) b' (len*i.size) us.toList 0 w (fun j hj=>by
      simp only[World.cell?,g1,Option.isSome_none,Bool.false_eq_true,if_false,Nat.add_zero]
      rw[Array.getElem?_eq_getElem (by omega)]
      rfl) (fun j hj=>by
      have:=g5 rfl
      simp only[World.frozen?,g1]
      simp only[Bool.and_eq_false_iff,decide_eq_false_iff_not]
      omega) (hlr.one hone)
    obtain ⟨k1,k2,k3,k4⟩:=aBA b' arr elem fr us.toList (len*i.size) w g1 hlen'
    have hblt:=(Array.getElem?_eq_some_iff.1 g1).1
    have hnlt:b<h.next:=by
     rcases Nat.lt_or_ge b h.next with hl | hl
     ·exact hl
     ·rw[h.wf b hl] at hgc; cases hgc
    have hsub:Sub φ (ups φ h.next (b',m)):=fun x y hy=>by
     unfold ups
     split
     ·rename_i e; subst e; rw[hr.fresh _ (Nat.le_refl _)] at hy; cases hy
     ·exact hy
    have hold':∀ k,k≠b'→(w.setCells b' (len*i.size) us.toList).heap[k]?=w.heap[k]?:=fun k hk=>by
     rw[k1,Array.getElem?_setIfInBounds_ne (Ne.symm hk)]
    refine ⟨ups φ h.next (b',m),.slice (some ⟨b',0,none⟩) (len+n) c',w.setCells b' (len*i.size) us.toList,.inl (aJ _ ?_),⟨hsub,⟨?_,?_,?_⟩,k2,k3,k4,by rw[k1]; simp,?_,?_,fun c hc => .inl (by simp only[ups]; rw[if_neg (by omega)])⟩,?_⟩
    ·rw[aAL ht hu hd hi hlen hin (hus w rfl)]
     simp only[addr_add,Nat.zero_add]
     simp only[Nat.add_zero] at hst
     rw[hst]
     rfl
    ·intro c o hco
     simp only[Hp.push,Hp.put] at hco
     by_cases e:c=h.next
     ·simp only[e,if_true,Option.some.injEq] at hco
      subst hco
      subst e
      refine ⟨b',m,by simp[ups],_,elem,fr,by rw[k1,Array.getElem?_setIfInBounds_self_of_lt hblt],?_,?_,?_,g5⟩
      ·simp only[List.size_toArray,List.length_append,List.length_take,List.length_drop,Array.length_toList]
       simp only[Array.length_toList] at hlen'
       omega
      ·simp only[List.length_append]
       simp only[Array.length_toList] at hlen'
       rw[ho3,hsz]
       omega
      ·simp only[List.length_append]
       rw[ho3,hsz]
       have e1:arr.toList.take (len*i.size)=os:=by
        have h1:=ho1 w rfl
        have h2:(loadCells ⟨b',0,none⟩ (len*i.size)).run P w = .ok (arr.toList.take (len*i.size)).toArray w:=by
         have hl:(arr.toList.take (len*i.size)).length=len*i.size:=by simp; omega
         conv=>lhs; rw[← hl]
         refine run_loadCells_list w _ _ fun j v hj=>?_
         have hj':j<len*i.size:=by
          rcases Nat.lt_or_ge j (len*i.size) with hh | hh
          ·exact hh
          ·rw[List.getElem?_eq_none (by omega)] at hj; cases hj
         rw[addr_add,Nat.zero_add]
         simp only[World.cell?,g1,Option.isSome_none,Bool.false_eq_true,if_false]
         rw[List.getElem?_take_of_lt hj',Array.getElem?_toList] at hj
         exact hj
        rw[h1] at h2
        simp only[Result.ok.injEq,and_true] at h2
        have:=congrArg Array.toList h2
        simpa using this.symm
       rw[e1]
       have hul:us.toList.length=n*i.size:=by simpa using hussz
       rw[List.append_assoc,List.take_append,List.take_of_length_le (by omega),List.take_append,List.take_of_length_le (l:=us.toList) (by omega)]
       have:len*i.size+n*i.size-os.length-us.toList.length=0:=by omega
       rw[this,List.take_zero,List.append_nil]
       exact (ho2.append hlr).mono hsub
     ·simp only[e,if_false] at hco
      split at hco
      ·cases hco
      ·rename_i e3
       obtain ⟨c2,k,q1,q2⟩:=hr.live c o hco
       refine ⟨c2,k,by simp[ups,e,q1],q2.mono hsub (hold' c2 fun hh=>e3 ⟨?_,hnlt⟩)⟩
       subst hh
       exact hr.inj c b c2 k m (by simp[hco]) (by simp[hgc]) q1 hφ
    ·intro c1 c2 c3 n1 n2 hc1 hc2 q1 q2
     simp only[Hp.push,Hp.put] at hc1 hc2
     have key:∀ c,c≠h.next→(if c=h.next then some (Ob.cells false (old++es)) else if c=b∧b<h.next then none else h.get c).isSome=true→c≠b∧(h.get c).isSome=true:=fun c hc hs=>by
      simp only[hc,if_false] at hs
      split at hs
      ·cases hs
      ·rename_i hh
       exact ⟨fun hb=>hh ⟨hb,hnlt⟩,hs⟩
     by_cases e1:c1=h.next<;>by_cases e2:c2=h.next
     ·rw[e1,e2]
     ·obtain ⟨hb,hs⟩:=key c2 e2 hc2
      simp only[ups,e1,if_true,e2,if_false,Option.some.injEq,Prod.mk.injEq] at q1 q2
      exact absurd (hr.inj c2 b c3 n2 m hs (by simp[hgc]) q2 (by rw[hφ,q1.1])) hb
     ·obtain ⟨hb,hs⟩:=key c1 e1 hc1
      simp only[ups,e1,if_false,e2,if_true,Option.some.injEq,Prod.mk.injEq] at q1 q2
      exact absurd (hr.inj c1 b c3 n1 m hs (by simp[hgc]) q1 (by rw[hφ,q2.1])) hb
     ·simp only[ups,e1,e2,if_false] at q1 q2
      exact hr.inj c1 c2 c3 n1 n2 (key c1 e1 hc1).2 (key c2 e2 hc2).2 q1 q2
    ·intro c hc
     have hc':h.next+1≤c:=hc
     simp only[ups]
     rw[if_neg (by omega)]
     exact hr.fresh c (by omega)
    ·intro c hc hn
     refine hold' c fun hh=>?_
     subst hh
     exact hn b m (by simp[Hp.wrt,hgc]) hφ
    ·intro c c2 k hs q1 hlt
     simp only[Hp.push,Hp.put] at hs
     by_cases e1:c=h.next
     ·simp only[ups,e1,if_true,Option.some.injEq,Prod.mk.injEq] at q1
      exact ⟨b,m,by simp[hgc],by rw[hφ,q1.1],fun _=>by simp[Hp.wrt,hgc]⟩
     ·simp only[e1,if_false] at hs
      split at hs
      ·cases hs
      ·rename_i e3
       simp only[ups,e1,if_false] at q1
       refine ⟨c,k,hs,q1,fun hw=>?_⟩
       unfold Hp.wrt at hw ⊢
       simp only[Hp.push,Hp.put,e1,if_false,e3] at hw
       exact hw
    ·exact .slo _ _ _ _ _ _ (by simp[ups]) hin (fun _=>rfl) (Nat.le_refl _) hvv
   ·obtain ⟨q,w1,hq,e1,e2,e3,e4,hrun⟩:=aA7 (ty:=ty) (zv:=zv) ht hu hd hi hz hlen (cap:=c') (by omega) hb1 hb2 (old:=os.toArray) (us:=us) (base:=some ⟨b',0,none⟩) (fun w' hh=>by simpa[Builtin.firstCells] using ho1 w' hh) hus
    obtain ⟨φ',hext,hφ'⟩:=aBN (us:=os.toArray++us) (rest:=Builtin.zeroCells zv.cells (q-(len+n))) (el:=el) hHR w1 e1 e2 e3 e4 (by simpa using ho2.append hlr)
    have hpre:Ext φ h w φ (h.put b none) w:=(Ext.refl hr).less (Nat.le_refl _) (fun c o hc=>by
     simp only[Hp.put] at hc
     split at hc
     ·cases hc
     ·exact hc) (.refl _)
    have hple:Le h (h.put b none):=⟨Nat.le_refl _,fun c _ hc=>by simp only[Hp.put]; split<;>first | rfl | exact hc⟩
    refine ⟨φ',.slice (some ⟨w.heap.size,0,none⟩) (len+n) q,_,.inl (aJ _ hrun),hpre.trans hr hext hple,?_⟩
    refine .slo _ _ _ _ _ _ hφ' hq (fun _=>rfl) (Nat.le_refl _) ?_
    rw[aAS,Array.size_append,List.size_toArray,hussz,hzs,hos,Nat.sub_mul]
    have:=Nat.mul_le_mul_right i.size hq
    rw[Nat.add_mul] at this ⊢
    omega
end
section
variable {P:Program} {φ:Phi} {e:Env} {a:Act} {h h':Hp} {w:World} {v:Value} {o:Oper}
theorem aCh {n:Int} (h0:0≤n) (h1:n<2^62):IntKind.i64.wrap n=n:=by
 unfold IntKind.wrap
 have hm:n%(2^IntKind.i64.bits:Int)=n:=Int.emod_eq_of_lt h0 (by simp[IntKind.bits]; omega)
 simp only[hm]
 have:¬ (n≥(2^(IntKind.i64.bits-1):Int)):=by simp[IntKind.bits]; omega
 simp[this]
theorem aIw {id:Nat} {fill:Ob→Hp} {ob:Ob} (sl:Slot φ h id fill) {t el:TypeId} {l c:Operand} {l' c':X} {i:TypeInfo} {z:List Value} (ht:P.underlying t=some (.slice el)) (hi:P.info? el=some i) (hz:zeroOf P el=some z) (hzl:z.length=i.size)
  (hl:VR φ (l'.ev e) (a.eval l)) (hc:VR φ (c'.ev e) (a.eval c)) (ho:o.op = .makeSlice t l c) (hr:HR φ h w) (hv:opA id e (.mks z i.bytes l' c')=some (v,ob)):Good ((execOp a.eval o).run P w) φ h w v (fill ob):=by
 simp only[opA,aGp] at hv
 split at hv
 case h_2=>cases hv
 rename_i k1 n k2 m e1 e2
 split at hv
 case isFalse=>cases hv
 rename_i hcond
 obtain ⟨h0,hle,hb,hb2⟩:=hcond
 cases hv
 rw[e1] at hl
 rw[e2] at hc
 simp only[execOp,ho,hl.aAG,hc.aAG]
 obtain ⟨zv,hz1,hz2,hz3⟩:=aAa (w:=w) hz
 have hcells:∃ zs:Array Value,(if m.toNat*i.size=0 then Pure.pure #[] else do Pure.pure (← zeroValue el).cells:Sem (Array Value)).run P w = .ok zs w ∧
   LR φ (List.replicate m.toNat z).flatten ((Array.range (m.toNat*i.size)).map (zs[·%zs.size]!)).toList:=by
  by_cases hn0:m.toNat*i.size=0
  ·refine ⟨#[],by simp[hn0],?_⟩
   have:(List.replicate m.toNat z).flatten=[]:=by
    rcases Nat.mul_eq_zero.1 hn0 with hh | hh
    ·simp[hh]
    ·have:z=[]:=List.length_eq_zero_iff.1 (by omega)
     subst this
     simp
   rw[this,hn0]
   simpa using LR.nil φ
  ·refine ⟨zv.cells,by simp[hn0,hz1],?_⟩
   have hs:i.size=zv.cells.size:=by rw[← hzl,← hz2]; simp
   have hpos:0<zv.cells.size:=by
    rcases Nat.eq_zero_or_pos i.size with hh | hh
    ·simp[hh] at hn0
    ·omega
   rw[hs,aBe _ _ hpos,hz2]
   exact .ground (by
    simp only[List.all_eq_true,List.mem_flatten,List.mem_replicate]
    rintro x ⟨l,⟨_,rfl⟩,hx⟩
    exact List.all_eq_true.1 hz3 x hx)
 obtain ⟨zs,hzs,hlr⟩:=hcells
 obtain ⟨φ',hext,hφ⟩:=aAg sl hr el hlr
 refine ⟨φ',.slice (some ⟨w.heap.size,0,none⟩) n.toNat m.toNat,_,.inl (aJ _ ?_),hext,.sl 0 _ _ hφ⟩
 have w1:IntKind.i64.wrap n=n:=aCh h0 (by omega)
 have w2:IntKind.i64.wrap m=m:=aCh (by omega) hb2
 have hno:(decide (m<0) || decide ((i.bytes:Int)*m>2^48) || decide (n<0) || decide (n>m))=false:=by
  simp only[Bool.or_eq_false_iff,decide_eq_false_iff_not]
  have:(2:Int)^47≤2^48:=by decide
  omega
 simp only[Instr.makeSlice,Sem.run_bind,aF ht,Result.andThen_ok,asInt,asIntOf,Sem.run_pure,aAE hi,w1,w2]
 simp only[hno,Bool.false_eq_true,if_false,Sem.run_bind,run_askRoom,Result.andThen_ok,aH hi]
 by_cases hn0:m.toNat*i.size=0
 ·simp only[if_pos hn0,Sem.run_bind,Sem.run_pure,Result.andThen_ok] at hzs ⊢
  cases hzs
  simp[newRow]
 ·simp only[if_neg hn0,Sem.run_bind,Sem.run_pure,Result.andThen_ok,hz1] at hzs ⊢
  cases hzs
  simp[newRow]
theorem aH3 {id:Nat} {fill:Ob→Hp} {ob:Ob} (sl:Slot φ h id fill) {t:TypeId} (ho:o.op = .makeMap t none) (hr:HR φ h w) (hv:opA id e .mkm=some (v,ob)):Good ((execOp a.eval o).run P w) φ h w v (fill ob):=by
 simp only[opA,Option.some.injEq,Prod.mk.injEq] at hv
 obtain ⟨rfl,rfl⟩:=hv
 simp only[execOp,ho]
 refine ⟨ups φ id (w.heap.size,0),.map (some w.heap.size),{ w with heap:=w.heap.push (.map #[] 0) },.inl (aJ _ ?_),.alloc sl hr _ (.map #[] 0) 0 rfl rfl rfl rfl ⟨#[],0,by simp,rfl,fun i e he=>by simp at he⟩,.map (n:=0) (by simp[ups])⟩
 simp[Instr.makeMap]
theorem aIX {id:Nat} {fill:Ob→Hp} {ob:Ob} (sl:Slot φ h id fill) {t el:TypeId} {x:Operand} {x':X} {i:TypeInfo} {dir:ChanDir} (ht:P.underlying t=some (.chan dir el)) (hi:P.info? el=some i) (hx:VR φ (x'.ev e) (a.eval x)) (ho:o.op = .makeChan t x) (hr:HR φ h w)
  (hv:opA id e (.mkc i.bytes x')=some (v,ob)):Good ((execOp a.eval o).run P w) φ h w v (fill ob):=by
 simp only[opA] at hv
 split at hv
 case h_2=>cases hv
 rename_i k n hx'
 split at hv
 case isFalse=>cases hv
 rename_i hc
 obtain ⟨h0,h1,h2⟩:=hc
 cases hv
 rw[hx'] at hx
 simp only[execOp,ho,hx.aAG]
 refine ⟨ups φ id (w.heap.size,0),.chan (some w.heap.size),{ w with heap:=w.heap.push (.chan n.toNat #[] false 0 0 false) },.inl (aJ _ ?_),.alloc sl hr _ (.chan n.toNat #[] false 0 0 false) 0 rfl rfl rfl rfl ⟨#[],0,0,by simp,.nil _⟩,.chan (n:=0) (by simp[ups])⟩
 have hno:¬ (n<0∨n>IntKind.i64.max∨(i.bytes:Int)*n>2^48-112):=by
  have:(2:Int)^47≤2^48-112:=by decide
  omega
 simp only[Instr.makeChan,asInt,asIntOf,Sem.run_bind,aF ht,aAE hi,Result.andThen_ok,Sem.run_pure]
 rw[if_neg hno]
 simp
theorem aC6 (f:Value→ByteArray→Sem (ForInStep ByteArray)) (hf:∀ (n:Int) (r:ByteArray),(f (.int .u8 n) r).run P w = .ok (.yield (r.push (UInt8.ofNat n.toNat))) w)
  (us:List Value) (ls:List UInt8) (hm:us.mapM (fun | .int .u8 n=>some (UInt8.ofNat n.toNat) | _=>none)=some ls):∀ (s:ByteArray),
  (forIn us s f).run P w = .ok ⟨s.data++ls.toArray⟩ w:=by
 induction us generalizing ls with
 | nil=>intro s; simp at hm; subst hm; simp
 | cons u us ih =>
  intro s
  simp only[List.mapM_cons] at hm
  obtain ⟨b,hb,hm⟩:=Option.bind_eq_some_iff.1 hm
  obtain ⟨bs,hbs,hm⟩:=Option.bind_eq_some_iff.1 hm
  cases hm
  split at hb
  case h_2=>cases hb
  cases hb
  simp only[List.forIn_cons,Sem.run_bind,hf,Result.andThen_ok]
  rw[ih _ hbs]
  simp[ByteArray.push]
theorem aHC {vs us:List Value} {ls:List UInt8} (hl:LR φ vs us) (hm:vs.mapM (fun | .int .u8 n=>some (UInt8.ofNat n.toNat) | _=>none)=some ls):us.mapM (fun | .int .u8 n=>some (UInt8.ofNat n.toNat) | _=>none)=some ls:=by
 induction vs generalizing us ls with
 | nil=>have:=hl.1; cases us<;>simp_all
 | cons v vs ih =>
  obtain ⟨u,us,rfl,h1,h2⟩:=hl.head
  simp only[List.mapM_cons] at hm ⊢
  obtain ⟨b,hb,hm⟩:=Option.bind_eq_some_iff.1 hm
  obtain ⟨bs,hbs,hm⟩:=Option.bind_eq_some_iff.1 hm
  cases hm
  split at hb
  case h_2=>cases hb
  rw[h1.aAG]
  cases hb
  simp[ih h2 hbs]
theorem aI6 {s d el:TypeId} {x:Operand} {x':X} (hs:P.underlying s=some (.slice el)) (hd:P.underlying d=some .string) (hel:P.underlying el=some (.int .u8)) (hx:VR φ (x'.ev e) (a.eval x)) (ho:o.op = .convert s d x) (hr:HR φ h w)
  (hv:opV e h (.b2s x')=some (v,h')):Good ((execOp a.eval o).run P w) φ h w v h':=by
 simp only[opV] at hv
 simp only[execOp,ho]
 generalize x'.ev e=xv at *
 generalize a.eval x=xu at *
 have main:∀ (p:Addr) (n c:Nat) (us:List Value) (ls:List UInt8),(loadCells p n).run P w = .ok us.toArray w→us.mapM (fun | .int .u8 n=>some (UInt8.ofNat n.toNat) | _=>none)=some ls →
   (convert s d (.slice (some p) n c)).run P w = .ok (.string ⟨ls.toArray⟩) w:=by
  intro p n c us ls h1 h2
  simp only[convert,Sem.run_bind,aF hs,aF hd,Result.andThen_ok,aF hel,Conv.bytesToString,h1]
  simp only[List.forIn_toArray]
  rw[aC6 _ (by intro n r; simp[Sem.run_pure]) us ls h2]
  simp[ByteArray.empty,ByteArray.emptyWithCapacity]
  rfl
 split at hv
 ·cases hv
  cases hx
  refine .pure _ hr (u := .string .empty) ?_ (.str _)
  simp[convert,aF hs,aF hd,aF hel,Conv.bytesToString]
 ·rename_i ad n c
  simp only[Option.map_eq_some_iff,Option.bind_eq_some_iff] at hv
  obtain ⟨ls,⟨cs,hcs,hm⟩,heq⟩:=hv
  cases heq
  refine .pure _ hr (u := .string ⟨ls.toArray⟩) ?_ (.str _)
  split at hcs
  ·rename_i h0
   cases hcs
   simp at hm
   subst hm
   subst h0
   cases hx<;>exact main _ _ _ [] [] (by simp[loadCells,loadCellsFrom]) (by simp)
  ·rename_i h0
   cases hx with
   | sl off _ _ hφ =>
    obtain ⟨us,h1,h2,_,_⟩:=hr.rdn (P:=P) hcs hφ
    exact main _ _ _ us ls (h1 w rfl) (aHC h2 hm)
   | slo off off' _ _ c' e2 hφ hc ho' hn hvv =>
    have:=ho' (by omega)
    subst this
    obtain ⟨us,h1,h2,_,_⟩:=hr.rdn (P:=P) hcs hφ
    exact main _ _ _ us ls (h1 w rfl) (aHC h2 hm)
 ·cases hv
theorem aHs {s d el:TypeId} {x:Operand} {x':X} (hs:P.underlying s=some .string) (hd:P.underlying d=some (.slice el)) (hel:P.underlying el=some (.int .u8)) (hx:VR φ (x'.ev e) (a.eval x)) (ho:o.op = .convert s d x) (hr:HR φ h w)
  (hv:opV e h (.s2b x')=some (v,h')):Good ((execOp a.eval o).run P w) φ h w v h':=by
 simp only[opV] at hv
 split at hv
 case h_2=>cases hv
 rename_i st hx'
 cases hv
 rw[hx'] at hx
 simp only[execOp,ho,hx.aAe]
 let q:=st.size+w.tape w.drawn (.appendCap st.size 0 el)%(2^63-st.size)
 let arr:Array Value:=(st.data.map fun b=>Value.int .u8 b.toNat)++Array.replicate (q-st.size) (.int .u8 0)
 have hqs:q-st.size+st.size=q:=by simp only[q]; omega
 have harr:arr.size=q:=by
  have hss:st.data.size=st.size:=rfl
  simp only[arr,Array.size_append,Array.size_map,Array.size_replicate,hss]
  omega
 let w':World:={ w with heap:=w.heap.push (.cells arr el (q,q+1)),drawn:=w.drawn+1 }
 have hext:Ext φ h w (ups φ h.next (w.heap.size,q)) (h.push (.cells false (st.data.toList.map fun b => .int .u8 b.toNat))) w':=by
  refine .alloc .next hr _ (.cells arr el (q,q+1)) q rfl rfl rfl rfl ⟨arr,el,(q,q+1),by simp[w'],harr,?_,?_,fun _ => .inr (Nat.le_refl _)⟩
  ·have hss:st.data.size=st.size:=rfl
   simp only[List.length_map,Array.length_toList,hss,q]
   omega
  ·have:arr.toList.take (st.data.toList.map fun b=>Value.int .u8 b.toNat).length=st.data.toList.map fun b=>Value.int .u8 b.toNat:=by
    simp only[arr,Array.toList_append,Array.toList_map]
    rw[List.take_left]
   rw[this]
   exact .map _ _ _ fun x _ => .int _ _
 refine ⟨ups φ h.next (w.heap.size,q),.slice (some ⟨w.heap.size,0,none⟩) st.size q,w',.inl (aJ _ ?_),hext,.slo (m:=q) _ _ _ _ _ _ (by simp[ups]) (by simp only[q]; omega) (fun _=>rfl) (Nat.le_refl _) (by omega)⟩
 simp only[convert,Sem.run_bind,aF hs,aF hd,aF hel,Result.andThen_ok,Conv.stringToBytes,run_choose,Question.forced,Question.cut,Bool.false_eq_true,if_false]
 simp only[newRow,Sem.run_bind,run_newObj,Result.andThen_ok,Sem.run_pure,markStringish,run_shape]
 have hsh:({ w with heap:=w.heap.push (.cells arr el),drawn:=w.drawn+1 }:World).shape? w.heap.size=some (el,q):=by
  simp[World.shape?,harr]
 show ((match ({ w with heap:=w.heap.push (.cells arr el),drawn:=w.drawn+1 }:World).shape? w.heap.size with
  | some (_,n)=>freeze { block:=w.heap.size,off:=n } 1
  | _=>Pure.pure ():Sem Unit).run P { w with heap:=w.heap.push (.cells arr el),drawn:=w.drawn+1 }).andThen (fun _ w2=>Result.ok (Value.slice (some ⟨w.heap.size,0,none⟩) st.size q) w2)=_
 rw[hsh]
 simp only[run_freeze,Result.andThen_ok]
 congr 1
 simp only[World.freeze,w']
 rw[if_neg (by decide)]
 congr 1
 apply Array.ext'
 apply List.ext_getElem?
 intro k
 simp only[Array.getElem?_toList,Array.getElem?_modify,Array.getElem?_push]
 by_cases hk:w.heap.size=k
 ·subst hk
  simp
 ·have:¬ k=w.heap.size:=fun e=>hk e.symm
  simp[hk,this]
theorem aGV {n m:Nat}:∀ (fs:List Field) (ps:List (Nat×Nat×Bool×Ty)) (xs us:List Value),LR φ xs us →
  (fs.mapM fun f=>if f.name = "_" then none else (aT P f.type).bind fun a=>(aBz P n f.type).map fun ty=>(f.offset,P.cellsOf f.type,a,ty))=some ps →
  ps.all (fun p => !p.2.2.1)=true→(aA6 (bD m) xs xs ps).isSome=true →
  ∀ f∈fs,∃ u,(part f.type us.toArray f.offset).run P w = .ok u w∧(∃ d,P.underlying f.type=some d∧(d = .bool∨(∃ k,d = .int k)∨d = .string)):=by
 intro fs
 induction fs with
 | nil=>intro ps xs us _ _ _ _ f hf; cases hf
 | cons g fs ih =>
  intro ps xs us hl hp hall hs f hf
  simp only[List.mapM_cons] at hp
  obtain ⟨q,hq,hp⟩:=Option.bind_eq_some_iff.1 hp
  obtain ⟨qs,hqs,hp⟩:=Option.bind_eq_some_iff.1 hp
  cases hp
  split at hq
  case isTrue=>cases hq
  obtain ⟨is,his,hq⟩:=Option.bind_eq_some_iff.1 hq
  obtain ⟨ty,hty,hq⟩:=Option.map_eq_some_iff.1 hq
  subst hq
  simp only[List.all_cons,Bool.and_eq_true,Bool.not_eq_true'] at hall
  obtain ⟨h1,hall⟩:=hall
  subst h1
  simp only[aA6,Bool.false_eq_true,if_false] at hs
  split at hs
  case h_2=>simp at hs
  rename_i x y ex ey
  rw[ex] at ey
  cases ey
  have hty':(∃ d,P.underlying g.type=some d∧(d = .bool∨(∃ k,d = .int k)∨d = .string))∧(ty = .bool∨(∃ k,ty = .int k)∨ty = .str):=by
   cases n with
   | zero=>simp[aBz] at hty
   | succ n =>
    unfold aBz at hty
    unfold aT at his
    split at hty
    ·rename_i hu; cases hty; exact ⟨⟨_,hu,.inl rfl⟩,.inl rfl⟩
    ·rename_i k hu; cases hty; exact ⟨⟨_,hu,.inr (.inl ⟨k,rfl⟩)⟩,.inr (.inl ⟨k,rfl⟩)⟩
    ·rename_i hu; cases hty; exact ⟨⟨_,hu,.inr (.inr rfl)⟩,.inr (.inr rfl)⟩
    ·rename_i fs hu; simp[hu] at his
    ·rename_i l el hu; simp[hu] at his
    ·cases hty
  rcases List.mem_cons.1 hf with rfl | hf
  ·obtain ⟨u,hu,hv⟩:=hl.get ex
   exact ⟨u,aAU his (by simpa using hu),hty'.1⟩
  ·refine ih qs xs us hl hqs hall ?_ f hf
   have hrefl:∀ b,bD m ty x x=some b→b=true:=by
    intro b hb
    cases m with
    | zero=>simp[bD] at hb
    | succ m =>
     rcases hty'.2 with rfl | ⟨k,rfl⟩ | rfl<;>cases x<;>simp[bD] at hb
     ·exact hb
     ·exact hb.2
     ·rw[beq_toListBytes] at hb; simpa using hb.symm
   split at hs
   ·exact hs
   ·rename_i he; have:=hrefl _ he; cases this
   ·simp at hs
theorem aCS {t:TypeId} {d:TypeDesc} {u:Value} {b:Bool} (hd:P.underlying t=some d) (hc:d = .bool∨(∃ k,d = .int k)∨d = .string) (n:Nat):(Instr.checkKey b (n+1) t u).run P w = .ok () w:=by
 rcases hc with rfl | ⟨k,rfl⟩ | rfl<;>simp[Instr.checkKey,aF hd]
theorem aBk {kt:TypeId} {fs:Array Field} {b:Bool} (hu:P.underlying kt=some (.struct fs)) (us:Array Value)
  (hall:∀ f∈fs.toList,∃ u,(part f.type us.toList.toArray f.offset).run P w = .ok u w∧(∃ d,P.underlying f.type=some d∧(d = .bool∨(∃ k,d = .int k)∨d = .string))) (m:Nat)
  (hm:∀ (t:TypeId) (d:TypeDesc) (u:Value),P.underlying t=some d→(d = .bool∨(∃ k,d = .int k)∨d = .string)→(Instr.checkKey b m t u).run P w = .ok () w) :
  (Instr.checkKey b (m+1) kt (.agg us)).run P w = .ok () w:=by
 simp only[Instr.checkKey,Sem.run_bind,aF hu,Result.andThen_ok]
 rw[← Array.forIn_toList]
 generalize fs.toList=l at hall
 clear hu
 induction l with
 | nil=>simp
 | cons f l ih =>
  obtain ⟨u,hp,d,hd,hc⟩:=hall f (by simp)
  simp only[Array.toArray_toList] at hp
  simp only[List.forIn_cons,Sem.run_bind,Sem.run_ite]
  split
  ·simp only[hp,Result.andThen_ok,hm _ _ u hd hc,Sem.run_pure]
   exact ih fun g hg=>hall g (by simp[hg])
  ·simp only[Sem.run_pure,Result.andThen_ok]
   exact ih fun g hg=>hall g (by simp[hg])
theorem aAw {kt:TypeId} {fs:Array Field} {ty:Ty} {k u:Value} {b:Bool} (hu:P.underlying kt=some (.struct fs)) (ht:aCd P kt=some ty) (hk:(eqV ty k k).isSome=true) (hv:VR φ k u) :
  (Instr.checkKey b 10000 kt u).run P w = .ok () w:=by
 obtain ⟨ty',ht1,ht2⟩:=Option.bind_eq_some_iff.1 ht
 split at ht2
 case isFalse=>cases ht2
 rename_i hflat
 cases ht2
 unfold aBz at ht1
 rw[hu] at ht1
 simp only at ht1
 split at ht1
 case isTrue=>cases ht1
 obtain ⟨ps,hps,rfl⟩:=Option.map_eq_some_iff.1 ht1
 unfold eqV at hk
 cases k<;>simp only[bD] at hk
 case agg xs =>
  obtain ⟨us,rfl,hl⟩:=hv.aAO
  have hall:=aGV (P:=P) (w:=w) fs.toList ps xs.toList us.toList hl hps (by simpa[aJs] using hflat) hk
  exact aBk hu us hall 9999 fun t d u h1 h2=>aCS h1 h2 9998
 all_goals simp at hk
theorem aKj {s el:TypeId} {x:Operand} {x':X} (hs:P.underlying s=some (.slice el)) (hel:P.underlying el=some (.int .u8)) (hx:VR φ (x'.ev e) (a.eval x)) (ho:o.op = .convert s s x) (hr:HR φ h w)
  (hv:opV e h (.ms x')=some (v,h')):Good ((execOp a.eval o).run P w) φ h w v h':=by
 simp only[opV] at hv
 split at hv
 case h_2=>cases hv
 rename_i b off n c hx'
 split at hv
 case h_2=>cases hv
 rename_i cs hg
 cases hv
 rw[hx'] at hx
 simp only[execOp,ho]
 generalize a.eval x=u at *
 cases hx with
 | @sl _ b' m _ _ _ hφ =>
  obtain ⟨arr,elem,⟨lo,hi⟩,h1,h2,h3,h4,h5⟩:=hr.get hg hφ
  have hblt:=(Array.getElem?_eq_some_iff.1 h1).1
  have hsh:w.shape? b'=some (elem,m):=by simp[World.shape?,h1,h2]
  have hh:(w.freeze ⟨b',m,none⟩ 1).heap=w.heap.setIfInBounds b' (.cells arr elem (if lo == hi then (m,m+1) else (min lo m,max hi (m+1)))):=by
   simp only[World.freeze]
   rw[if_neg (by decide)]
   apply Array.ext'
   apply List.ext_getElem?
   intro i
   simp only[Array.getElem?_toList,Array.getElem?_modify,Array.getElem?_setIfInBounds]
   by_cases e:b'=i
   ·subst e
    obtain ⟨_,he⟩:=Array.getElem?_eq_some_iff.1 h1
    simp[he,hblt]
   ·simp[e]
  have hext:Ext φ h w φ (h.put b (some (.cells false cs))) (w.freeze ⟨b',m,none⟩ 1):=by
   refine Ext.set hr hg (by simp[Hp.wrt,hg]) hφ hh (by simp[World.freeze]) (by simp[World.freeze]) (by simp[World.freeze]) ?_
   refine ⟨arr,elem,(if lo == hi then (m,m+1) else (min lo m,max hi (m+1))),by rw[hh]; simp[hblt],h2,h3,h4,fun _ => .inr ?_⟩
   split
   ·exact Nat.le_refl _
   ·rename_i hne
    have:=h5 rfl
    simp at hne this ⊢
    omega
  have hsame:h.put b (some (.cells false cs))=h:=Hp.ext' rfl fun k=>by
   simp only[Hp.put]
   split
   ·rename_i e; rw[e.1,hg]
   ·rfl
  rw[hsame] at hext
  refine ⟨φ,.slice (some ⟨b',off,none⟩) n c,w.freeze ⟨b',m,none⟩ 1,.inl (aJ _ ?_),hext,.sl _ _ _ hφ⟩
  simp only[convert,Sem.run_bind,aF hs,Result.andThen_ok,aF hel,beq_self_eq_true,markStringish,run_shape,hsh,run_freeze,Sem.run_pure]
end
section
variable {P:Program} {φ:Phi} {e:Env} {a:Act} {h h':Hp} {w:World} {v:Value} {o:Oper}
def MR (φ:Phi) (es:List (Value×Value)) (xs:List MapEntry):Prop :=
 xs.length=es.length∧∀ (i:Nat) (e:Value×Value),es[i]?=some e→∃ x:MapEntry,xs[i]?=some x∧VR φ e.1 x.key∧VR φ e.2 x.val
theorem MR.cons {p:Value×Value} {es:List (Value×Value)} {xs:List MapEntry} (h:MR φ (p::es) xs):∃ x ys,xs=x::ys∧VR φ p.1 x.key∧VR φ p.2 x.val∧MR φ es ys:=by
 cases xs with
 | nil=>have:=h.1; simp at this
 | cons x ys =>
  obtain ⟨y,h1,h2,h3⟩:=h.2 0 p rfl
  simp at h1
  subst h1
  exact ⟨x,ys,rfl,h2,h3,by have:=h.1; simpa using this,fun i e he=>by simpa using h.2 (i+1) e (by simpa using he)⟩
def FR (φ:Phi):Option (Nat×Value)→Option (Nat×Value)→Prop
 | none,none=>True
 | some (i,v),some (j,u)=>i=j∧VR φ v u
 | _,_=>False
theorem aCD {kt:TypeId} {ty:Ty} {k u:Value} (ht:aBz P 20 kt=some ty) (hk:VR φ k u):∀ (es:List (Value×Value)) (xs:List MapEntry) (i:Nat) (r:Option (Nat×Value)),MR φ es xs→find ty k es i=some r →
  ∃ r',(Instr.findAsking kt u xs i).run P w = .ok r' w∧FR φ r r':=by
 intro es
 induction es with
 | nil =>
  intro xs i r hm hf
  simp[find] at hf
  subst hf
  have:xs=[]:=by have:=hm.1; simpa using this
  subst this
  exact ⟨none,by simp[Instr.findAsking],trivial⟩
 | cons p es ih =>
  intro xs i r hm hf
  obtain ⟨x,ys,rfl,h1,h2,h3⟩:=hm.cons
  simp only[find] at hf
  split at hf
  ·rename_i he
   cases hf
   have hE:=aCK (P:=P) (w:=w) 20 10000 20 kt ty _ _ _ _ true (by omega) ht he hk h1
   have hE':(Op.equal kt u x.key).run P w = .ok true w:=hE
   exact ⟨some (i,x.val),by simp[Instr.findAsking,hE'],rfl,h2⟩
  ·rename_i he
   have hE:=aCK (P:=P) (w:=w) 20 10000 20 kt ty _ _ _ _ false (by omega) ht he hk h1
   have hE':(Op.equal kt u x.key).run P w = .ok false w:=hE
   obtain ⟨r',hr1,hr2⟩:=ih ys (i+1) r h3 hf
   exact ⟨r',by simp[Instr.findAsking,hE',hr1],hr2⟩
  ·cases hf
theorem aAo {kt:TypeId} {fs:Array Field} {ty:Ty} {k u:Value} (hs:P.underlying kt=some (.struct fs)) (ht:aBz P 20 kt=some ty) (hk:VR φ k u) {es:List (Value×Value)} {xs:List MapEntry} {r:Option (Nat×Value)} (hm:MR φ es xs)
  (hf:find ty k es 0=some r):∃ r',(Instr.findKey kt u xs).run P w = .ok r' w∧FR φ r r':=by
 cases xs with
 | nil =>
  have:es=[]:=by have:=hm.1; simpa using this.symm
  subst this
  simp[find] at hf
  subst hf
  exact ⟨none,by simp[Instr.findKey,aF hs,Instr.findNow],trivial⟩
 | cons x ys =>
  obtain ⟨r',h1,h2⟩:=aCD (P:=P) (w:=w) ht hk es (x::ys) 0 r hm hf
  refine ⟨r',?_,h2⟩
  simp only[Instr.findKey,Sem.run_bind,aF hs,Result.andThen_ok,Instr.findNow,Instr.sameNow]
  exact h1
theorem aAq {kt:TypeId} {ty:Ty} (h:aCd P kt=some ty):aBz P 20 kt=some ty:=by
 obtain ⟨ty',h1,h2⟩:=Option.bind_eq_some_iff.1 h
 split at h2
 ·cases h2; exact h1
 ·cases h2
theorem HR.aHk (r:HR φ h w) {b b' n:Nat} {es:List (Value×Value)} (hb:h.get b=some (.map es)) (hφ:φ b=some (b',n)):∃ arr clock,w.heap[b']?=some (.map arr clock)∧MR φ es arr.toList:=by
 obtain ⟨arr,clock,h1,h2,h3⟩:=r.get hb hφ
 exact ⟨arr,clock,h1,h2,h3⟩
theorem aAR {b':Nat} {arr:Array MapEntry} {clock:Nat} (h1:w.heap[b']?=some (.map arr clock)):(getObj b').run P w = .ok (.map arr clock) w:=by
 simp[getObj,Sem.run,h1]
theorem aAp {b':Nat} {arr:Array MapEntry} {clock:Nat} {x:Obj} (h1:w.heap[b']?=some (.map arr clock)):(setObj b' x).run P w = .ok () { w with heap:=w.heap.setIfInBounds b' x }:=by
 simp[setObj,Sem.run,h1]
theorem aGR {t kt el:TypeId} {fs:Array Field} {ty:Ty} {z:Value} {ok:Bool} {m k:Operand} {m' k':X} {i:TypeInfo} (ht:P.underlying t=some (.map kt el)) (hs:P.underlying kt=some (.struct fs)) (hty:aCd P kt=some ty)
  (hi:P.info? el=some i) (hz:i.zero=some z) (hzv:∀ φ,VR φ z z) (hm:VR φ (m'.ev e) (a.eval m)) (hk:VR φ (k'.ev e) (a.eval k)) (ho:o.op = .lookup t m k ok) (hr:HR φ h w)
  (hv:opV e h (.look ty z ok m' k')=some (v,h')):Good ((execOp a.eval o).run P w) φ h w v h':=by
 simp only[opV] at hv
 simp only[execOp,ho]
 generalize m'.ev e=mv at *
 generalize k'.ev e=kv at *
 generalize a.eval m=mu at *
 generalize a.eval k=ku at *
 split at hv
 case h_1=>cases hv
 rename_i es hes
 obtain ⟨r,hf,heq⟩:=Option.map_eq_some_iff.1 hv
 cases heq
 split at hf
 case isFalse=>cases hf
 rename_i hself
 have main:∀ (xs:Array MapEntry) (mu:Value),MR φ es xs.toList→((mu = .map none∧xs = #[])∨∃ b' clock,mu = .map (some b')∧w.heap[b']?=some (.map xs clock))→∃ u,(Instr.lookup t mu ku ok).run P w = .ok u w ∧
   VR φ (aN2 ok z r) u:=by
  intro xs mu hmr hmu
  obtain ⟨r',h1,h2⟩:=aAo (P:=P) (w:=w) hs (aAq hty) hk hmr hf
  have hck:=aAw (P:=P) (w:=w) (b:=xs.isEmpty) hs hty hself hk
  have hrun:∀ (q:Value) (b:Bool),(match r' with | some (_,v)=>(v,true) | none=>(z,false))=(q,b)→(Instr.lookup t mu ku ok).run P w = .ok (if ok then .tuple #[q,.bool b] else q) w:=by
   intro q b hq
   rcases hmu with ⟨rfl,rfl⟩ | ⟨b',clock,rfl,hg⟩
   ·cases r' with
    | none =>
     cases hq
     simp only[Instr.lookup,Sem.run_bind,aF ht,Result.andThen_ok,Sem.run_pure,hck,h1,zeroValue,aAE hi,hz]
    | some p =>
     cases hq
     simp only[Instr.lookup,Sem.run_bind,aF ht,Result.andThen_ok,Sem.run_pure,hck,h1]
   ·cases r' with
    | none =>
     cases hq
     simp only[Instr.lookup,Sem.run_bind,aF ht,Result.andThen_ok,Sem.run_pure,aAR hg,hck,h1,zeroValue,aAE hi,hz]
    | some p =>
     cases hq
     simp only[Instr.lookup,Sem.run_bind,aF ht,Result.andThen_ok,Sem.run_pure,aAR hg,hck,h1]
  cases r with
  | none =>
   cases r' with
   | some q=>cases h2
   | none =>
    refine ⟨_,hrun z false rfl,?_⟩
    cases ok
    ·exact hzv φ
    ·exact VR.aGK (.cons (hzv φ) (.cons (.bool _) (.nil _)))
  | some q =>
   obtain ⟨j,q⟩:=q
   cases r' with
   | none=>cases h2
   | some q' =>
    obtain ⟨j',q'⟩:=q'
    obtain ⟨_,hq⟩:=h2
    refine ⟨_,hrun q' true rfl,?_⟩
    cases ok
    ·exact hq
    ·exact VR.aGK (.cons hq (.cons (.bool _) (.nil _)))
 split at hes
 ·cases hes
  cases hm
  obtain ⟨u,h1,h2⟩:=main #[] _ ⟨rfl,fun i e he=>by simp at he⟩ (.inl ⟨rfl,rfl⟩)
  exact .pure _ hr (u:=u) h1 h2
 ·rename_i b
  split at hes
  case h_2=>cases hes
  rename_i es' hg
  cases hes
  cases hm with
  | map hφ =>
   obtain ⟨arr,clock,g1,g2⟩:=hr.aHk hg hφ
   obtain ⟨u,h1,h2⟩:=main arr _ g2 (.inr ⟨_,clock,rfl,g1⟩)
   exact .pure _ hr (u:=u) h1 h2
 ·cases hes
theorem aIJ {x y u z:Value} (hs:aLs x y=true) (hx:VR φ x u) (hy:VR φ y z):Instr.sameBits 9999 z u=true:=by
 cases x<;>cases y<;>simp[aLs] at hs
 ·subst hs; rw[hx.aAM,hy.aAM]; simp[Instr.sameBits]
 ·obtain ⟨rfl,rfl⟩:=hs; rw[hx.aAG,hy.aAG]; simp[Instr.sameBits]
 ·rw[hx.aAe,hy.aAe]
  simp only[Instr.sameBits]
  rw[beq_toListBytes] at hs ⊢
  simp only[beq_iff_eq] at hs ⊢
  exact hs.symm
theorem aE6:∀ (xs ys us zs:List Value),aFM xs ys=true→LR φ xs us→LR φ ys zs→us.length=zs.length∧((zs.zip us).all fun p=>Instr.sameBits 9999 p.1 p.2)=true
 | [],[],us,zs,_,h1,h2=>by
  have:=h1.1
  have:=h2.1
  cases us<;>cases zs<;>simp_all
 | x::xs,y::ys,us,zs,hs,h1,h2=>by
  simp only[aFM,Bool.and_eq_true] at hs
  obtain ⟨u,us,rfl,a1,a2⟩:=h1.head
  obtain ⟨z,zs,rfl,b1,b2⟩:=h2.head
  obtain ⟨l1,l2⟩:=aE6 xs ys us zs hs.2 a2 b2
  exact ⟨by simp[l1],by simp only[List.zip_cons_cons,List.all_cons,aIJ hs.1 a1 b1,l2,Bool.and_self]⟩
 | [],_::_,_,_,hs,_,_=>by simp[aFM] at hs
 | _::_,[],_,_,hs,_,_=>by simp[aFM] at hs
theorem aH9 {x y u z:Value} (hs:aLg x y=true) (hx:VR φ x u) (hy:VR φ y z):Instr.sameBits 10000 z u=true:=by
 cases x<;>cases y<;>simp only[aLg] at hs
 case agg.agg xs ys =>
  obtain ⟨us,rfl,h1⟩:=hx.aAO
  obtain ⟨zs,rfl,h2⟩:=hy.aAO
  obtain ⟨l1,l2⟩:=aE6 _ _ _ _ hs h1 h2
  have l1':zs.size=us.size:=by simpa using l1.symm
  show (zs.size == us.size&&(zs.toList.zip us.toList).all fun (x,y)=>Instr.sameBits 9999 x y)=true
  simp only[l1',beq_self_eq_true,Bool.true_and]
  exact l2
 all_goals cases hs
theorem aGT {t kt el:TypeId} {fs:Array Field} {ty:Ty} {m k x:Operand} {m' k' x':X} (ht:P.underlying t=some (.map kt el)) (hs:P.underlying kt=some (.struct fs)) (hty:aCd P kt=some ty)
  (hm:VR φ (m'.ev e) (a.eval m)) (hk:VR φ (k'.ev e) (a.eval k)) (hx:VR φ (x'.ev e) (a.eval x)) (ho:o.op = .mapUpdate t m k x) (hr:HR φ h w)
  (hv:opV e h (.mset ty m' k' x')=some (v,h')):Good ((execOp a.eval o).run P w) φ h w v h':=by
 simp only[opV] at hv
 simp only[execOp,ho]
 generalize m'.ev e=mv at *
 generalize k'.ev e=kv at *
 generalize x'.ev e=xv at *
 generalize a.eval m=mu at *
 generalize a.eval k=ku at *
 generalize a.eval x=xu at *
 split at hv
 case h_2=>cases hv
 rename_i b
 split at hv
 case h_2=>cases hv
 rename_i es hg
 split at hv
 case isFalse=>cases hv
 rename_i hself
 cases hm with
 | @map _ b' n hφ =>
  obtain ⟨arr,clock,g1,g2⟩:=hr.aHk hg hφ
  have hblt:=(Array.getElem?_eq_some_iff.1 g1).1
  have hck:=aAw (P:=P) (w:=w) (b:=false) hs hty hself hk
  have hwrt:h.wrt b=true:=by simp[Hp.wrt,hg]
  split at hv
  ·rename_i i q hf
   split at hv
   case h_2=>cases hv
   rename_i old hold
   split at hv
   case isFalse=>cases hv
   rename_i hsame
   cases hv
   obtain ⟨r',h1,h2⟩:=aAo (P:=P) (w:=w) hs (aAq hty) hk g2 hf
   cases r' with
   | none=>cases h2
   | some p =>
    obtain ⟨i',q'⟩:=p
    obtain ⟨rfl,_⟩:=h2
    obtain ⟨x0,hx0,hk0,_⟩:=g2.2 i old hold
    have hx0':arr[i]?=some x0:=by simpa using hx0
    have hsb:=aH9 hsame hk hk0
    let arr':=arr.modify i fun e=>{ e with key:=ku,val:=xu }
    refine ⟨φ,undef,{ w with heap:=w.heap.setIfInBounds b' (.map arr' clock) },.inr ⟨aB1 _ ?_,rfl⟩,.set hr hg hwrt hφ rfl rfl rfl rfl ?_,.undef _⟩
    ·simp only[Instr.mapUpdate,Sem.run_bind,aF ht,Result.andThen_ok,aAR g1,hck,h1,hx0',Option.map_some,Option.getD_some,Instr.keyThatStays,hsb,if_true,Sem.run_pure]
     exact aAp g1
    ·refine ⟨arr',clock,by simp[hblt],by have:=g2.1; simp[arr'] at this ⊢; exact this,fun j p hp=>?_⟩
     rw[List.getElem?_set] at hp
     by_cases e1:i=j
     ·subst e1
      have hlt:i<es.length:=(List.getElem?_eq_some_iff.1 hold).1
      simp only[if_true,hlt] at hp
      cases hp
      have hlt':i<arr.size:=(Array.getElem?_eq_some_iff.1 hx0').1
      exact ⟨{ x0 with key:=ku,val:=xu },by simp[arr',Array.getElem?_modify,hx0'],hk,hx⟩
     ·simp only[e1,if_false] at hp
      obtain ⟨y,hy,hy2⟩:=g2.2 j p hp
      refine ⟨y,?_,hy2⟩
      have:arr[j]?=some y:=by simpa using hy
      simp[arr',Array.getElem?_modify,e1,this]
  ·rename_i hf
   cases hv
   obtain ⟨r',h1,h2⟩:=aAo (P:=P) (w:=w) hs (aAq hty) hk g2 hf
   cases r' with
   | some p=>cases h2
   | none =>
    refine ⟨φ,undef,{ w with heap:=w.heap.setIfInBounds b' (.map (arr.push { key:=ku,val:=xu,born:=clock }) (clock+1)) },.inr ⟨aB1 _ ?_,rfl⟩,.set hr hg hwrt hφ rfl rfl rfl rfl ?_,.undef _⟩
    ·simp only[Instr.mapUpdate,Sem.run_bind,aF ht,Result.andThen_ok,aAR g1,hck,h1]
     exact aAp g1
    ·refine ⟨arr.push { key:=ku,val:=xu,born:=clock },clock+1,by simp[hblt],by have:=g2.1; simp at this ⊢; exact this,fun j p hp=>?_⟩
     have hlen:arr.size=es.length:=by have:=g2.1; simpa using this
     by_cases e1:j<es.length
     ·rw[List.getElem?_append_left e1] at hp
      obtain ⟨y,hy,hy2⟩:=g2.2 j p hp
      refine ⟨y,?_,hy2⟩
      have:arr[j]?=some y:=by simpa using hy
      simp only[Array.getElem?_toList,Array.getElem?_push]
      rw[if_neg (by omega)]
      exact this
     ·rw[List.getElem?_append_right (by omega)] at hp
      have:j-es.length=0:=by
       rcases Nat.eq_zero_or_pos (j-es.length) with hh | hh
       ·exact hh
       ·rw[List.getElem?_eq_none (by simp; omega)] at hp; cases hp
      rw[this] at hp
      simp at hp
      subst hp
      refine ⟨{ key:=ku,val:=xu,born:=clock },?_,hk,hx⟩
      simp only[Array.getElem?_toList,Array.getElem?_push]
      rw[if_pos (by omega)]
  ·cases hv
theorem aBg (arr:Array MapEntry) (i:Nat):(arr.eraseIdxIfInBounds i).toList=arr.toList.eraseIdx i:=by
 simp
theorem aJH {t kt el:TypeId} {fs:Array Field} {ty:Ty} {m k:Operand} {m' k':X} {ts:List TypeId} {rt:TypeId} (ht:P.underlying t=some (.map kt el)) (hs:P.underlying kt=some (.struct fs)) (hty:aCd P kt=some ty)
  (hm:VR φ (m'.ev e) (a.eval m)) (hk:VR φ (k'.ev e) (a.eval k)) (hr:HR φ h w)
  (hv:opV e h (.del ty m' k')=some (v,h')):Good ((do Pure.pure (Next.value (← Builtin.delete_ (t::ts).toArray rt #[a.eval m,a.eval k])):Sem Next).run P w) φ h w v h':=by
 simp only[opV] at hv
 generalize m'.ev e=mv at *
 generalize k'.ev e=kv at *
 generalize a.eval m=mu at *
 generalize a.eval k=ku at *
 split at hv
 case h_2=>cases hv
 rename_i b
 split at hv
 case h_2=>cases hv
 rename_i es hg
 split at hv
 case isFalse=>cases hv
 rename_i hself
 obtain ⟨r,hf,heq⟩:=Option.map_eq_some_iff.1 hv
 cases hm with
 | @map _ b' n hφ =>
  obtain ⟨arr,clock,g1,g2⟩:=hr.aHk hg hφ
  have hblt:=(Array.getElem?_eq_some_iff.1 g1).1
  have hck:=aAw (P:=P) (w:=w) (b:=arr.isEmpty) hs hty hself hk
  have hwrt:h.wrt b=true:=by simp[Hp.wrt,hg]
  obtain ⟨r',h1,h2⟩:=aAo (P:=P) (w:=w) hs (aAq hty) hk g2 hf
  have hset:=fun x=>aAp (P:=P) (x:=x) g1
  cases r with
  | none =>
   cases heq
   cases r' with
   | some p=>cases h2
   | none =>
    have hbase:Ext φ h w φ (h.put b (some (.map es))) { w with heap:=w.heap.setIfInBounds b' (.map arr clock) } := .set hr hg hwrt hφ rfl rfl rfl rfl ⟨arr,clock,by simp[hblt],g2.1,g2.2⟩
    refine ⟨φ,.tuple #[],{ w with heap:=w.heap.setIfInBounds b' (.map arr clock) },.inl (aJ _ ?_),hbase.less (Nat.le_refl _) (fun c o hc=>?_) (.put (.inl (by simp[hg]))),.undef _⟩
    ·have hset':=hset (.map arr clock)
     simp only[Builtin.delete_,List.getElem?_toArray,List.getElem?_cons_zero,List.getElem?_cons_succ]
     simp only[Sem.run_bind,aF ht,Result.andThen_ok,aAR g1,hck,h1,hset',Sem.run_pure]
    ·simp only[Hp.put]
     split
     ·rename_i e1; rw[e1.1,hg] at hc; exact hc
     ·exact hc
  | some p =>
   obtain ⟨i,q⟩:=p
   cases heq
   cases r' with
   | none=>cases h2
   | some p' =>
    obtain ⟨i',q'⟩:=p'
    obtain ⟨rfl,_⟩:=h2
    refine ⟨φ,.tuple #[],{ w with heap:=w.heap.setIfInBounds b' (.map (arr.eraseIdxIfInBounds i) clock) },.inl (aJ _ ?_),.set hr hg hwrt hφ rfl rfl rfl rfl ⟨arr.eraseIdxIfInBounds i,clock,by simp[hblt],?_,?_⟩,.undef _⟩
    ·have hset':=hset (.map (arr.eraseIdxIfInBounds i) clock)
     simp only[Builtin.delete_,List.getElem?_toArray,List.getElem?_cons_zero,List.getElem?_cons_succ]
     simp only[Sem.run_bind,aF ht,Result.andThen_ok,aAR g1,hck,h1,hset',Sem.run_pure]
    ·rw[aBg]
     have:=g2.1
     simp only[List.length_eraseIdx,this]
    ·intro j p hp
     rw[aBg]
     rw[List.getElem?_eraseIdx] at hp ⊢
     split at hp
     ·rename_i hlt; rw[if_pos hlt]; exact g2.2 j p hp
     ·rename_i hlt; rw[if_neg hlt]; exact g2.2 (j+1) p hp
theorem aCa {t kt el:TypeId} {m:Operand} {m':X} {rt:TypeId} (ht:P.underlying t=some (.map kt el))
  (hm:VR φ (m'.ev e) (a.eval m)) (hr:HR φ h w)
  (hv:opV e h (.clrm m')=some (v,h')):Good ((do Pure.pure (Next.value (← Builtin.clear_ #[t] rt #[a.eval m])):Sem Next).run P w) φ h w v h':=by
 simp only[opV] at hv
 generalize m'.ev e=mv at *
 generalize a.eval m=mu at *
 split at hv
 case h_2=>cases hv
 rename_i b
 split at hv
 case h_2=>cases hv
 rename_i es hg
 cases hv
 cases hm with
 | @map _ b' n hφ =>
  obtain ⟨arr,clock,g1,g2⟩:=hr.aHk hg hφ
  have hblt:=(Array.getElem?_eq_some_iff.1 g1).1
  have hset:=aAp (P:=P) (x := .map #[] clock) g1
  refine ⟨φ,.tuple #[],{ w with heap:=w.heap.setIfInBounds b' (.map #[] clock) },.inl (aJ _ ?_),.set hr hg (by simp[Hp.wrt,hg]) hφ rfl rfl rfl rfl ⟨#[],clock,by simp[hblt],rfl,fun i e he=>by simp at he⟩,.undef _⟩
  simp only[Builtin.clear_,List.getElem?_toArray,List.getElem?_cons_zero]
  simp only[Sem.run_bind,aF ht,Result.andThen_ok,aAR g1,hset,Sem.run_pure]
end
section
variable {P:Program} {φ:Phi} {e:Env} {a:Act} {h h':Hp} {w:World} {v:Value} {o:Oper} {op:Op}
theorem aBr {t el:TypeId} {m:Operand} {m':X} {z:List Value} {rt:TypeId} (ht:P.underlying t=some (.slice el)) (hz:zeroOf P el=some z)
  (hm:VR φ (m'.ev e) (a.eval m)) (hr:HR φ h w)
  (hv:opV e h (.clr z m')=some (v,h')):Good ((do Pure.pure (Next.value (← Builtin.clear_ #[t] rt #[a.eval m])):Sem Next).run P w) φ h w v h':=by
 simp only[opV] at hv
 generalize m'.ev e=mv at *
 generalize a.eval m=mu at *
 obtain ⟨zv,hz1,hz2,hz3⟩:=aAa (w:=w) hz
 have hzc:∀ n,(Builtin.zeroCells zv.cells n).toList=(List.replicate n z).flatten:=by
  intro n
  rcases Nat.eq_zero_or_pos zv.cells.size with h0 | h0
  ·have:z=[]:=by rw[← hz2]; exact List.length_eq_zero_iff.1 (by simpa using h0)
   subst this
   have:(Builtin.zeroCells zv.cells n).size=0:=by rw[aAS,h0,Nat.mul_zero]
   simp at this
   simp[this]
  ·rw[← hz2]; exact aBe _ _ h0
 have hlr:∀ n,LR φ (List.replicate n z).flatten (List.replicate n z).flatten:=fun n => .ground (by
  simp only[List.all_eq_true,List.mem_flatten,List.mem_replicate]
  rintro x ⟨l,⟨_,rfl⟩,hx⟩
  exact List.all_eq_true.1 hz3 x hx)
 split at hv
 ·cases hv
  cases hm
  refine .pure _ hr (u := .tuple #[]) ?_ (.undef _)
  simp only[Builtin.clear_,List.getElem?_toArray,List.getElem?_cons_zero]
  simp only[Sem.run_bind,aF ht,Result.andThen_ok,Sem.run_pure]
 ·rename_i ad n c
  split at hv
  ·rename_i h0
   subst h0
   cases hv
   cases hm
   all_goals
    refine .pure _ hr (u := .tuple #[]) ?_ (.undef _)
    simp only[Builtin.clear_,List.getElem?_toArray,List.getElem?_cons_zero]
    simp only[Sem.run_bind,aF ht,Result.andThen_ok,Sem.run_pure]
  ·rename_i h0
   obtain ⟨k,rfl⟩:∃ k,n=k+1:=⟨n-1,by omega⟩
   obtain ⟨g,hw,heq⟩:=Option.map_eq_some_iff.1 hv
   cases heq
   cases hm with
   | sl off _ _ hφ =>
    obtain ⟨w',hrun,hext⟩:=hr.wr (P:=P) hw hφ (hlr _)
    refine ⟨φ,.tuple #[],w',.inl (aJ _ ?_),hext,.undef _⟩
    simp only[Builtin.clear_,List.getElem?_toArray,List.getElem?_cons_zero]
    simp only[Sem.run_bind,aF ht,Result.andThen_ok,hz1,hzc,hrun,Sem.run_pure]
   | slo off off' _ _ c' e2 hφ hc ho' hn hvv =>
    have:=ho' (by omega)
    subst this
    obtain ⟨w',hrun,hext⟩:=hr.wr (P:=P) hw hφ (hlr _)
    refine ⟨φ,.tuple #[],w',.inl (aJ _ ?_),hext,.undef _⟩
    simp only[Builtin.clear_,List.getElem?_toArray,List.getElem?_cons_zero]
    simp only[Sem.run_bind,aF ht,Result.andThen_ok,hz1,hzc,hrun,Sem.run_pure]
 ·cases hv
theorem aGm {b:BinOp} {t yt:TypeId} {x y:Operand} (hc:aDg P b t x y=some op) (ho:o.op = .binOp b t x y yt) (he:ER φ e a) (hr:HR φ h w) (hv:opV e h op=some (v,h')) :
  Good ((execOp a.eval o).run P w) φ h w v h':=by
 unfold aDg at hc
 have two:∀ (f:X→X→Op),((cx x).bind fun a=>(cx y).map fun b=>f a b)=some op→∃ x' y',cx x=some x'∧cx y=some y'∧op=f x' y':=fun f hf=>by
  obtain ⟨x',hx,hf⟩:=Option.bind_eq_some_iff.1 hf
  obtain ⟨y',hy,hf⟩:=Option.map_eq_some_iff.1 hf
  exact ⟨x',y',hx,hy,hf.symm⟩
 have nil:∀ (neg:Bool) (d:TypeDesc) (kd:Nat),P.underlying t=some d→kindOf d=some kd→b=(if neg then .neq else .eql) →
   (if aAs kd y=true then (cx x).map (.eqn kd neg) else if aAs kd x=true then (cx y).map (.eqn kd neg) else none)=some op→Good ((execOp a.eval o).run P w) φ h w v h':=by
  intro neg d kd hu hk hb hf
  split at hf
  ·rename_i hn
   obtain ⟨x',hx,rfl⟩:=Option.map_eq_some_iff.1 hf
   exact aEQ hk hu hb (.inl ⟨aI hx he,hn⟩) ho hr hv
  ·split at hf
   ·rename_i hn
    obtain ⟨y',hy,rfl⟩:=Option.map_eq_some_iff.1 hf
    exact aEQ hk hu hb (.inr ⟨aI hy he,hn⟩) ho hr hv
   ·cases hf
 split at hc
 ·obtain ⟨x',y',hx,hy,rfl⟩:=two _ hc
  exact aEW (aI hx he) (aI hy he) ho hr hv
 ·obtain ⟨x',y',hx,hy,rfl⟩:=two _ hc
  exact aEW (aI hx he) (aI hy he) ho hr hv
 ·rename_i hu
  split at hc
  ·obtain ⟨x',y',hx,hy,rfl⟩:=two _ hc
   exact aE7 (neg:=false) (op := .eql) hu rfl (aI hx he) (aI hy he) ho hr hv
  ·obtain ⟨x',y',hx,hy,rfl⟩:=two _ hc
   exact aE7 (neg:=true) (op := .neq) hu rfl (aI hx he) (aI hy he) ho hr hv
  ·cases hc
 ·rename_i hu
  split at hc
  case isTrue=>cases hc
  rename_i hg
  split at hc
  ·obtain ⟨ty,hty,hc⟩:=Option.bind_eq_some_iff.1 hc
   obtain ⟨x',y',hx,hy,rfl⟩:=two _ hc
   exact aBY (neg:=false) (op := .eql) hty (.inl ⟨_,hu⟩) (by simpa using hg) rfl (aI hx he) (aI hy he) ho hr hv
  ·obtain ⟨ty,hty,hc⟩:=Option.bind_eq_some_iff.1 hc
   obtain ⟨x',y',hx,hy,rfl⟩:=two _ hc
   exact aBY (neg:=true) (op := .neq) hty (.inl ⟨_,hu⟩) (by simpa using hg) rfl (aI hx he) (aI hy he) ho hr hv
  ·cases hc
 ·rename_i hu
  split at hc
  case isTrue=>cases hc
  rename_i hg
  split at hc
  ·obtain ⟨ty,hty,hc⟩:=Option.bind_eq_some_iff.1 hc
   obtain ⟨x',y',hx,hy,rfl⟩:=two _ hc
   exact aBY (neg:=false) (op := .eql) hty (.inr ⟨_,_,hu⟩) (by simpa using hg) rfl (aI hx he) (aI hy he) ho hr hv
  ·obtain ⟨ty,hty,hc⟩:=Option.bind_eq_some_iff.1 hc
   obtain ⟨x',y',hx,hy,rfl⟩:=two _ hc
   exact aBY (neg:=true) (op := .neq) hty (.inr ⟨_,_,hu⟩) (by simpa using hg) rfl (aI hx he) (aI hy he) ho hr hv
  ·cases hc
 ·rename_i d _ _ _ _ _ hu
  obtain ⟨kd,hk,hc⟩:=Option.bind_eq_some_iff.1 hc
  split at hc
  ·exact nil false d kd hu hk rfl hc
  ·exact nil true d kd hu hk rfl hc
  ·cases hc
 ·cases hc
theorem aEl {s d:TypeId} {x:Operand} (hc:aCL P s d x=some op) (ho:o.op = .convert s d x) (he:ER φ e a) (hr:HR φ h w) (hv:opV e h op=some (v,h')) :
  Good ((execOp a.eval o).run P w) φ h w v h':=by
 unfold aCL at hc
 split at hc
 ·rename_i hs hd
  obtain ⟨x',hx,rfl⟩:=Option.map_eq_some_iff.1 hc
  exact aGX hs hd (aI hx he) ho hr hv
 ·rename_i hs hd
  split at hc
  ·rename_i hel
   obtain ⟨x',hx,rfl⟩:=Option.map_eq_some_iff.1 hc
   exact aI6 hs hd hel (aI hx he) ho hr hv
  ·cases hc
 ·rename_i hs hd
  split at hc
  ·rename_i hel
   obtain ⟨x',hx,rfl⟩:=Option.map_eq_some_iff.1 hc
   exact aHs hs hd hel (aI hx he) ho hr hv
  ·cases hc
 ·rename_i hs hd
  split at hc
  case isFalse=>cases hc
  rename_i hsd
  subst hsd
  split at hc
  ·rename_i hel
   obtain ⟨x',hx,rfl⟩:=Option.map_eq_some_iff.1 hc
   exact aKj hd hel (aI hx he) ho hr hv
  ·cases hc
 ·cases hc
def aAK (b:Builtin) (ts:Array TypeId) (ty:TypeId) (args:Array Value):Sem Value :=
 match b with
 | .len=>Builtin.len_ ts ty args
 | .append=>Builtin.append_ ts ty args
 | .copy=>Builtin.copy_ ts ty args
 | .max=>Builtin.max_ ts ty args
 | .min=>Builtin.min_ ts ty args
 | .delete=>Builtin.delete_ ts ty args
 | .clear=>Builtin.clear_ ts ty args
 | _=>stuck ""
theorem aCB {b:Builtin} {args:Array Operand} {ts:Array TypeId} (hc:aAz P b args.toList ts.toList=some op) (ho:o.op = .call { callee := .builtin b,args,argTypes:=ts }) (he:ER φ e a) (hr:HR φ h w)
  (hv:opV e h op=some (v,h')):Good ((execOp a.eval o).run P w) φ h w v h':=by
 have hrun:∀ b',b'=b→(b' = .len∨b' = .append∨b' = .copy∨b' = .max∨b' = .min∨b' = .delete∨b' = .clear) →
   (execOp a.eval o).run P w=(do Pure.pure (Next.value (← aAK b ts o.type (args.map a.eval))):Sem Next).run P w:=by
  intro b' hb hb'
  subst hb
  simp only[execOp,ho,resolve,Sem.run_bind,Sem.run_pure,Result.andThen_ok,invoke]
  rcases hb' with rfl | rfl | rfl | rfl | rfl | rfl | rfl<;>simp[builtin,aAK]
 unfold aAz at hc
 split at hc
 ·
  rename_i x t h1 h2
  have h1':args = #[x]:=by simpa using congrArg List.toArray h1
  have h2':ts = #[t]:=by simpa using congrArg List.toArray h2
  subst h1' h2'
  rw[hrun _ rfl (by simp)]
  simp only[List.map_toArray,List.map_cons,List.map_nil,aAK]
  split at hc
  ·rename_i hu
   obtain ⟨x',hx,rfl⟩:=Option.map_eq_some_iff.1 hc
   exact aB4 (d := .string) hu (aI hx he) hr hv
  ·rename_i hu
   obtain ⟨x',hx,rfl⟩:=Option.map_eq_some_iff.1 hc
   exact aB4 hu (aI hx he) hr hv
  ·rename_i hu
   obtain ⟨x',hx,rfl⟩:=Option.map_eq_some_iff.1 hc
   exact aB4 hu (aI hx he) hr hv
  ·rename_i hu
   obtain ⟨x',hx,rfl⟩:=Option.map_eq_some_iff.1 hc
   exact aB4 hu (aI hx he) hr hv
  ·rename_i n el hu
   cases hc
   simp only[opV,Option.some.injEq,Prod.mk.injEq] at hv
   obtain ⟨rfl,rfl⟩:=hv
   refine .pure _ hr (u:=goInt n) ?_ (.int _ _)
   generalize a.eval x=xu
   simp only[Builtin.len_,List.getElem?_toArray,List.getElem?_cons_zero]
   simp only[Sem.run_bind,aF hu,Result.andThen_ok]
   cases xu<;>rfl
  ·rename_i b hu
   split at hc
   case h_2=>cases hc
   rename_i n el hb
   cases hc
   simp only[opV,Option.some.injEq,Prod.mk.injEq] at hv
   obtain ⟨rfl,rfl⟩:=hv
   refine .pure _ hr (u:=goInt n) ?_ (.int _ _)
   generalize a.eval x=xu
   simp only[Builtin.len_,List.getElem?_toArray,List.getElem?_cons_zero]
   simp only[Sem.run_bind,aF hu,Result.andThen_ok]
   cases xu<;>simp[aF hb]
  ·cases hc
 ·
  rename_i x y t u h1 h2
  have h1':args = #[x,y]:=by simpa using congrArg List.toArray h1
  have h2':ts = #[t,u]:=by simpa using congrArg List.toArray h2
  subst h1' h2'
  rw[hrun _ rfl (by simp)]
  simp only[List.map_toArray,List.map_cons,List.map_nil,aAK]
  split at hc
  case h_2=>cases hc
  rename_i el d ht hu
  have hd:(∀ k,d ≠ .int k)∧((P.info? el).bind fun i=>if (match i.zero with | some z=>z.cells.size == i.size | none=>false)=true then (cx x).bind fun a=>(cx y).map fun b=>Op.app i.size i.bytes a b else none)=some op:=by
   cases d<;>first
    | (cases hc; done)
    | exact ⟨fun k=>by simp,hc⟩
  obtain ⟨hd,hc⟩:=hd
  obtain ⟨i,hi,hc⟩:=Option.bind_eq_some_iff.1 hc
  cases hz:i.zero with
  | none=>simp[hz] at hc
  | some zv =>
   simp only[hz] at hc
   split at hc
   case isFalse=>cases hc
   rename_i hzz
   simp only[beq_iff_eq] at hzz
   obtain ⟨x',hx,hc⟩:=Option.bind_eq_some_iff.1 hc
   obtain ⟨y',hy,rfl⟩:=Option.map_eq_some_iff.1 hc
   exact aIO ht hu hd hi hz hzz (aI hx he) (aI hy he) hr hv
 ·
  rename_i x y t tl h1 h2
  have h1':args = #[x,y]:=by simpa using congrArg List.toArray h1
  have h2':ts=(t::tl).toArray:=by simpa using congrArg List.toArray h2
  subst h1' h2'
  rw[hrun _ rfl (by simp)]
  simp only[List.map_toArray,List.map_cons,List.map_nil,aAK]
  split at hc
  case h_2=>cases hc
  rename_i el ht
  obtain ⟨i,hi,hc⟩:=Option.bind_eq_some_iff.1 hc
  obtain ⟨x',hx,hc⟩:=Option.bind_eq_some_iff.1 hc
  obtain ⟨y',hy,rfl⟩:=Option.map_eq_some_iff.1 hc
  exact aJE ht hi (aI hx he) (aI hy he) hr hv
 ·rename_i x y h1
  have h1':args = #[x,y]:=by simpa using congrArg List.toArray h1
  subst h1'
  rw[hrun _ rfl (by simp)]
  simp only[List.map_toArray,List.map_cons,List.map_nil,aAK]
  obtain ⟨x',hx,hc⟩:=Option.bind_eq_some_iff.1 hc
  obtain ⟨y',hy,rfl⟩:=Option.map_eq_some_iff.1 hc
  exact aL4 (aI hx he) (aI hy he) hr hv
 ·rename_i x y h1
  have h1':args = #[x,y]:=by simpa using congrArg List.toArray h1
  subst h1'
  rw[hrun _ rfl (by simp)]
  simp only[List.map_toArray,List.map_cons,List.map_nil,aAK]
  obtain ⟨x',hx,hc⟩:=Option.bind_eq_some_iff.1 hc
  obtain ⟨y',hy,rfl⟩:=Option.map_eq_some_iff.1 hc
  exact aLz (aI hx he) (aI hy he) hr hv
 ·rename_i m k t tl h1 h2
  have h1':args = #[m,k]:=by simpa using congrArg List.toArray h1
  have h2':ts=(t::tl).toArray:=by simpa using congrArg List.toArray h2
  subst h1' h2'
  rw[hrun _ rfl (by simp)]
  simp only[List.map_toArray,List.map_cons,List.map_nil,aAK]
  split at hc
  case h_2=>cases hc
  rename_i kt el ht
  split at hc
  case h_2=>cases hc
  rename_i fs hs
  obtain ⟨ty,hty,hc⟩:=Option.bind_eq_some_iff.1 hc
  obtain ⟨m',hm,hc⟩:=Option.bind_eq_some_iff.1 hc
  obtain ⟨k',hk,rfl⟩:=Option.map_eq_some_iff.1 hc
  exact aJH ht hs hty (aI hm he) (aI hk he) hr hv
 ·rename_i x t h1 h2
  have h1':args = #[x]:=by simpa using congrArg List.toArray h1
  have h2':ts = #[t]:=by simpa using congrArg List.toArray h2
  subst h1' h2'
  rw[hrun _ rfl (by simp)]
  simp only[List.map_toArray,List.map_cons,List.map_nil,aAK]
  split at hc
  ·rename_i ht
   obtain ⟨x',hx,rfl⟩:=Option.map_eq_some_iff.1 hc
   exact aCa ht (aI hx he) hr hv
  ·rename_i el ht
   obtain ⟨z,hz,hc⟩:=Option.bind_eq_some_iff.1 hc
   obtain ⟨x',hx,rfl⟩:=Option.map_eq_some_iff.1 hc
   exact aBr ht hz (aI hx he) hr hv
  ·cases hc
 ·cases hc
def aOL:Op→Bool
 | .call .. | .bC .. => true
 | _=>false
def aJy:Go.Op→Bool
 | .alloc _ | .box .. | .buildSlice .. | .makeMap .. | .makeChan .. | .makeSlice .. => true
 | _=>false
theorem aBd {id:Nat} {fill:Ob→Hp} {ob:Ob} (sl:Slot φ h id fill) (hg:aJy o.op=true) (hc:comp P o=some op) (he:ER φ e a) (hr:HR φ h w) (hv:opA id e op=some (v,ob)):Good ((execOp a.eval o).run P w) φ h w v (fill ob):=by
 obtain ⟨dst,gop,ty,pos,after,guard⟩:=o
 cases gop<;>simp only[comp] at hc
 case alloc t =>
  obtain ⟨z,hz,rfl⟩:=Option.map_eq_some_iff.1 hc
  exact aJK sl hz hr hv
 case box t x =>
  obtain ⟨x',hx,rfl⟩:=Option.map_eq_some_iff.1 hc
  exact aIT sl (aI hx he) hr hv
 case buildSlice t n ps =>
  split at hc
  case h_2=>cases hc
  rename_i el hu
  obtain ⟨i,hi,hc⟩:=Option.bind_eq_some_iff.1 hc
  split at hc
  case isFalse=>cases hc
  rename_i hn
  obtain ⟨z,hz,hc⟩:=Option.bind_eq_some_iff.1 hc
  obtain ⟨qs,hq,rfl⟩:=Option.map_eq_some_iff.1 hc
  exact aIW sl hu hi hn hz hq he hr hv
 case makeMap t r =>
  cases r with
  | some r=>cases hc
  | none=>cases hc; exact aH3 sl rfl hr hv
 case makeChan t x =>
  split at hc
  case h_2=>cases hc
  rename_i dir el hu
  obtain ⟨i,hi,hc⟩:=Option.bind_eq_some_iff.1 hc
  obtain ⟨x',hx,rfl⟩:=Option.map_eq_some_iff.1 hc
  exact aIX sl hu hi (aI hx he) rfl hr hv
 case makeSlice t l c =>
  split at hc
  case h_2=>cases hc
  rename_i el hu
  obtain ⟨i,hi,hc⟩:=Option.bind_eq_some_iff.1 hc
  obtain ⟨z,hz,hc⟩:=Option.bind_eq_some_iff.1 hc
  split at hc
  case isFalse=>cases hc
  rename_i hzl
  obtain ⟨l',hl,hc⟩:=Option.bind_eq_some_iff.1 hc
  obtain ⟨c',hc',rfl⟩:=Option.map_eq_some_iff.1 hc
  exact aIw sl hu hi hz hzl (aI hl he) (aI hc' he) rfl hr hv
 all_goals simp[aJy] at hg
theorem aHl (hc:comp P o=some op) (he:ER φ e a) (hr:HR φ h w) (hv:opV e h op=some (v,h')):Good ((execOp a.eval o).run P w) φ h w v h':=by
 by_cases hg:aJy o.op=true
 ·have:∃ ob,opA h.next e op=some (v,ob)∧h'=h.push ob:=by
   have hA:isA op=true:=by
    obtain ⟨dst,gop,ty,pos,after,guard⟩:=o
    cases gop<;>simp[aJy] at hg<;>simp only[comp] at hc
    case alloc t=>obtain ⟨z,hz,rfl⟩:=Option.map_eq_some_iff.1 hc; rfl
    case box t x=>obtain ⟨x',hx,rfl⟩:=Option.map_eq_some_iff.1 hc; rfl
    case buildSlice t n ps =>
     split at hc
     case h_2=>cases hc
     obtain ⟨i,hi,hc⟩:=Option.bind_eq_some_iff.1 hc
     split at hc
     case isFalse=>cases hc
     obtain ⟨z,hz,hc⟩:=Option.bind_eq_some_iff.1 hc
     obtain ⟨qs,hq,rfl⟩:=Option.map_eq_some_iff.1 hc
     rfl
    case makeMap t r =>
     cases r with
     | some r=>cases hc
     | none=>cases hc; rfl
    case makeChan t x =>
     split at hc
     case h_2=>cases hc
     obtain ⟨i,hi,hc⟩:=Option.bind_eq_some_iff.1 hc
     obtain ⟨x',hx,rfl⟩:=Option.map_eq_some_iff.1 hc
     rfl
    case makeSlice t l c =>
     split at hc
     case h_2=>cases hc
     obtain ⟨i,hi,hc⟩:=Option.bind_eq_some_iff.1 hc
     obtain ⟨z,hz,hc⟩:=Option.bind_eq_some_iff.1 hc
     split at hc
     case isFalse=>cases hc
     obtain ⟨l',hl,hc⟩:=Option.bind_eq_some_iff.1 hc
     obtain ⟨c',hc',rfl⟩:=Option.map_eq_some_iff.1 hc
     rfl
   cases op<;>simp[isA] at hA<;>simp only[opV,Option.map_eq_some_iff] at hv<;>obtain ⟨⟨r,ob⟩,h1,h2⟩:=hv<;>cases h2<;>exact ⟨ob,h1,rfl⟩
  obtain ⟨ob,h1,rfl⟩:=this
  exact aBd .next hg hc he hr h1
 obtain ⟨dst,gop,ty,pos,after,guard⟩:=o
 cases gop<;>simp[aJy] at hg<;>simp only[comp] at hc
 case move x =>
  obtain ⟨x',hx,rfl⟩:=Option.map_eq_some_iff.1 hc
  simp only[opV,Option.some.injEq,Prod.mk.injEq] at hv
  obtain ⟨rfl,rfl⟩:=hv
  exact .val hr (u:=a.eval x) rfl (aI hx he)
 case assign x =>
  obtain ⟨x',hx,rfl⟩:=Option.map_eq_some_iff.1 hc
  simp only[opV,Option.some.injEq,Prod.mk.injEq] at hv
  obtain ⟨rfl,rfl⟩:=hv
  exact .val hr (u:=a.eval x) rfl (aI hx he)
 case pick c x y =>
  obtain ⟨c',hc',hc⟩:=Option.bind_eq_some_iff.1 hc
  obtain ⟨x',hx,hc⟩:=Option.bind_eq_some_iff.1 hc
  obtain ⟨y',hy,rfl⟩:=Option.map_eq_some_iff.1 hc
  exact aGb (aI hc' he) (aI hx he) (aI hy he) rfl hr hv
 case build t ps =>
  obtain ⟨z,hz,hc⟩:=Option.bind_eq_some_iff.1 hc
  split at hc
  ·rename_i fs hu
   split at hc
   case isFalse=>cases hc
   rename_i hall
   obtain ⟨qs,hq,rfl⟩:=Option.map_eq_some_iff.1 hc
   exact aBO hu hz hall hq he hr hv
  ·rename_i n el hu
   obtain ⟨i,hi,hc⟩:=Option.bind_eq_some_iff.1 hc
   obtain ⟨qs,hq,rfl⟩:=Option.map_eq_some_iff.1 hc
   exact aBX hu hz hi hq he hr hv
  ·cases hc
 case load t x =>
  obtain ⟨x',hx,hc⟩:=Option.bind_eq_some_iff.1 hc
  obtain ⟨b,hb,hc⟩:=Option.map_eq_some_iff.1 hc
  cases b with
  | true=>simp only[if_true] at hc; subst hc; exact aI4 hb (aI hx he) hr hv
  | false=>simp only[Bool.false_eq_true,if_false] at hc; subst hc; exact aLB hb (aI hx he) hr hv
 case store t x y =>
  obtain ⟨x',hx,hc⟩:=Option.bind_eq_some_iff.1 hc
  obtain ⟨y',hy,hc⟩:=Option.bind_eq_some_iff.1 hc
  obtain ⟨b,hb,hc⟩:=Option.bind_eq_some_iff.1 hc
  cases b with
  | true=>simp only[if_true,Option.some.injEq] at hc; subst hc; exact aI3 hb (aI hx he) (aI hy he) hr hv
  | false =>
   simp only[Bool.false_eq_true,if_false] at hc
   split at hc
   case isFalse=>cases hc
   rename_i h1
   cases hc
   exact aL6 hb h1 (aI hx he) (aI hy he) hr hv
 case nilCheck x =>
  obtain ⟨x',hx,rfl⟩:=Option.map_eq_some_iff.1 hc
  exact aFs (aI hx he) rfl hr hv
 case binOp b t x y yt=>exact aGm hc rfl he hr hv
 case unOp b t x =>
  obtain ⟨x',hx,rfl⟩:=Option.map_eq_some_iff.1 hc
  exact aLE (aI hx he) rfl hr hv
 case convert s d x=>exact aEl hc rfl he hr hv
 case makeFunc fn first caps =>
  cases fn<;>simp only at hc
  case func f =>
   split at hc
   case isFalse=>cases hc
   rename_i h0
   obtain ⟨l,hl,rfl⟩:=Option.map_eq_some_iff.1 hc
   exact aHa h0 hl he rfl hr hv
  all_goals cases hc
 case slice t x lo hi mx =>
  obtain ⟨x',hx,hc⟩:=Option.bind_eq_some_iff.1 hc
  obtain ⟨lo',hlo,hc⟩:=Option.bind_eq_some_iff.1 hc
  obtain ⟨hi',hhi,hc⟩:=Option.bind_eq_some_iff.1 hc
  obtain ⟨mx',hmx,hc⟩:=Option.bind_eq_some_iff.1 hc
  split at hc
  ·rename_i hu
   split at hc
   case isFalse=>cases hc
   rename_i hn
   cases hc
   have:mx=none:=by
    cases mx with
    | none=>rfl
    | some q =>
     simp only[cxo,Option.map_eq_some_iff] at hmx
     obtain ⟨q',_,rfl⟩:=hmx
     simp at hn
   subst this
   exact aII hu (aI hx he) hlo hhi he rfl hr hv
  ·rename_i el hu
   obtain ⟨i,hi2,rfl⟩:=Option.map_eq_some_iff.1 hc
   exact aM7 hu hi2 (aI hx he) hlo hhi hmx he rfl hr hv
  ·rename_i n el hu
   obtain ⟨i,hi2,rfl⟩:=Option.map_eq_some_iff.1 hc
   exact aE5 (.inl hu) hi2 (aI hx he) hlo hhi hmx he rfl hr hv
  ·rename_i b hu
   split at hc
   case h_2=>cases hc
   rename_i n el hb
   obtain ⟨i,hi2,rfl⟩:=Option.map_eq_some_iff.1 hc
   exact aE5 (.inr ⟨b,hu,hb⟩) hi2 (aI hx he) hlo hhi hmx he rfl hr hv
  ·cases hc
 case fieldAddr t x k =>
  split at hc
  case h_2=>cases hc
  rename_i fs hu
  obtain ⟨f,hf,hc⟩:=Option.bind_eq_some_iff.1 hc
  obtain ⟨i,hi,hc⟩:=Option.bind_eq_some_iff.1 hc
  split at hc
  case isTrue=>cases hc
  rename_i h0
  obtain ⟨x',hx,rfl⟩:=Option.map_eq_some_iff.1 hc
  exact aKV hu hf hi h0 (aI hx he) rfl hr hv
 case field t x k =>
  split at hc
  case h_2=>cases hc
  rename_i fs hu
  obtain ⟨f,hf,hc⟩:=Option.bind_eq_some_iff.1 hc
  obtain ⟨b,hb,hc⟩:=Option.bind_eq_some_iff.1 hc
  obtain ⟨x',hx,hc⟩:=Option.map_eq_some_iff.1 hc
  cases b with
  | true=>simp only[if_true] at hc; subst hc; exact aG3 hu hf hb (aI hx he) rfl hr hv
  | false=>simp only[Bool.false_eq_true,if_false] at hc; subst hc; exact aIr hu hf hb (aI hx he) rfl hr hv
 case indexAddr t x i =>
  split at hc
  ·rename_i el hu
   obtain ⟨s,hs,hc⟩:=Option.bind_eq_some_iff.1 hc
   obtain ⟨x',hx,hc⟩:=Option.bind_eq_some_iff.1 hc
   obtain ⟨i',hi,rfl⟩:=Option.map_eq_some_iff.1 hc
   exact aMQ hu hs (aI hx he) (aI hi he) rfl hr hv
  ·rename_i n el hu
   obtain ⟨s,hs,hc⟩:=Option.bind_eq_some_iff.1 hc
   obtain ⟨x',hx,hc⟩:=Option.bind_eq_some_iff.1 hc
   obtain ⟨i',hi,rfl⟩:=Option.map_eq_some_iff.1 hc
   exact aIo hu hs (aI hx he) (aI hi he) rfl hr hv
  ·cases hc
 case index t x i =>
  split at hc
  ·rename_i hu
   obtain ⟨x',hx,hc⟩:=Option.bind_eq_some_iff.1 hc
   obtain ⟨i',hi,rfl⟩:=Option.map_eq_some_iff.1 hc
   exact aI5 hu (aI hx he) (aI hi he) rfl hr hv
  ·rename_i n el hu
   obtain ⟨b,hb,hc⟩:=Option.bind_eq_some_iff.1 hc
   obtain ⟨x',hx,hc⟩:=Option.bind_eq_some_iff.1 hc
   obtain ⟨i',hi,hc⟩:=Option.bind_eq_some_iff.1 hc
   cases b with
   | true=>simp only[if_true,Option.some.injEq] at hc; subst hc; exact aG6 hu hb (aI hx he) (aI hi he) rfl hr hv
   | false =>
    simp only[Bool.false_eq_true,if_false] at hc
    split at hc
    case isFalse=>cases hc
    rename_i h1
    cases hc
    exact aIf hu hb h1 (aI hx he) (aI hi he) rfl hr hv
  ·cases hc
 case lookup t m k ok =>
  split at hc
  case h_2=>cases hc
  rename_i kt el hu
  split at hc
  case h_2=>cases hc
  rename_i fs hs
  obtain ⟨tk,hty,hc⟩:=Option.bind_eq_some_iff.1 hc
  obtain ⟨z,hz,hc⟩:=Option.bind_eq_some_iff.1 hc
  obtain ⟨m',hm,hc⟩:=Option.bind_eq_some_iff.1 hc
  obtain ⟨k',hk,rfl⟩:=Option.map_eq_some_iff.1 hc
  cases hi:P.info? el with
  | none=>simp[hi] at hz
  | some i =>
   cases hzz:i.zero with
   | none=>simp[hi,hzz] at hz
   | some zz =>
    simp only[hi,hzz,Option.bind_some] at hz
    have hzv:z=zz∧∀ φ,VR φ z z:=by
     split at hz
     ·rename_i cs hcs
      cases hcs
      split at hz
      ·rename_i hg
       cases hz
       exact ⟨rfl,fun φ=>by simpa using VR.aH2 (LR.ground (φ:=φ) hg)⟩
      ·cases hz
     ·rename_i q _ hq
      cases hq
      split at hz
      ·rename_i hg; cases hz; exact ⟨rfl,fun φ => .ground hg⟩
      ·cases hz
     ·rename_i hq; cases hq
    obtain ⟨rfl,hzv⟩:=hzv
    exact aGR hu hs hty hi hzz hzv (aI hm he) (aI hk he) rfl hr hv
 case mapUpdate t m k x =>
  split at hc
  case h_2=>cases hc
  rename_i kt el hu
  split at hc
  case h_2=>cases hc
  rename_i fs hs
  obtain ⟨tk,hty,hc⟩:=Option.bind_eq_some_iff.1 hc
  obtain ⟨m',hm,hc⟩:=Option.bind_eq_some_iff.1 hc
  obtain ⟨k',hk,hc⟩:=Option.bind_eq_some_iff.1 hc
  obtain ⟨x',hx,rfl⟩:=Option.map_eq_some_iff.1 hc
  exact aGT hu hs hty (aI hm he) (aI hk he) (aI hx he) rfl hr hv
 case extract x i =>
  obtain ⟨x',hx,rfl⟩:=Option.map_eq_some_iff.1 hc
  exact aH7 (aI hx he) rfl hr hv
 case call c =>
  obtain ⟨callee,args,ts⟩:=c
  cases callee with
  | builtin b=>exact aCB hc rfl he hr hv
  | invoke r m=>cases hc
  | value f =>
   cases f with
   | func f =>
    simp only at hc
    split at hc
    ·obtain ⟨l,_,rfl⟩:=Option.map_eq_some_iff.1 hc
     simp[opV] at hv
    ·cases hc
   | tmp t =>
    obtain ⟨x,_,hc⟩:=Option.bind_eq_some_iff.1 hc
    obtain ⟨l,_,rfl⟩:=Option.map_eq_some_iff.1 hc
    simp[opV] at hv
   | const t =>
    obtain ⟨x,_,hc⟩:=Option.bind_eq_some_iff.1 hc
    obtain ⟨l,_,rfl⟩:=Option.map_eq_some_iff.1 hc
    simp[opV] at hv
   | global t =>
    obtain ⟨x,hx,hc⟩:=Option.bind_eq_some_iff.1 hc
    simp[cx] at hx
 all_goals cases hc
end
end Go.Dx
