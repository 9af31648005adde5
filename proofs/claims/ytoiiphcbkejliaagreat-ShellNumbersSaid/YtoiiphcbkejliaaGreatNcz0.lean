/- A text of this claim. -/
import Derived.Test.YtoiiphcbkejliaaGreatNc0
set_option linter.unusedSimpArgs false
set_option linter.unusedVariables false
set_option maxRecDepth 100000
namespace Go.Dx
open Go
def aQg:Enc IOp:=⟨5,fun x=>[.int .i64 x.k,.int .i64 x.d,.int .i64 x.a,.int .i64 x.b,u32 x.imm],fun _=>rfl,fun _=>rfl,by decide⟩
@[simp] theorem aPc:aQg.sz=5:=rfl
def aZe:Enc (BitVec 32):=⟨1,fun x=>[u32 x],fun _=>rfl,fun _=>rfl,by decide⟩
@[simp] theorem aS4:aZe.sz=1:=rfl
def encZ:Enc Int:=⟨1,fun x=>[.int .i64 x],fun _=>rfl,fun _=>rfl,by decide⟩
@[simp] theorem aQ8:encZ.sz=1:=rfl
section
variable {e:Env} {h:Hp} {x y z:X}
@[simp] theorem aQq {n sz:Nat}:opV e h (.iaa n sz x y)=(at? (x.ev e)).bind fun p=>(aAV n (y.ev e)).map fun k=>(ptr p.1 (p.2+k*sz),h):=rfl
@[simp] theorem aNC {n:Nat} {k:IntKind} {i:Int} (h0:0≤i) (h1:i<n):aAV n (.int k i)=some i.toNat:=by
 simp[aAV,h0,h1]
def aT4 (i:Value):Value→Option Value
 | .string s=>(aAV s.size i).bind fun k=>(s.data.toList[k]?).map fun b => .int .u8 b.toNat
 | _=>none
@[simp] theorem aQv:opV e h (.ixs x y)=(aT4 (y.ev e) (x.ev e)).map fun v=>(v,h):=by
 simp only[opV,aT4]
 generalize x.ev e=v
 cases v<;>first | rfl | skip
 simp only[]
 cases aAV _ (y.ev e) with
 | none=>rfl
 | some k=>simp only[Option.bind_some]; cases (_:List UInt8)[k]?<;>rfl
end
theorem aHt {l:List Value} {i:Nat} {v:Value} (hi:i<l.length):over l i [v]=l.set i v:=by
 simp only[over,List.length_singleton]
 rw[List.set_eq_take_append_cons_drop,if_pos hi]
 simp
section
variable {T:Nat→Option Fn} {Q:Ex→Env→Hp→Prop} {k:List Fr} {e:Env} {h:Hp} {d:Option Nat} {l:List O}
end
theorem bI.upd {α:Type} {E:Enc α} {g h:Hp} {a:Option Addr} {xs:List α} {fp fp':List Nat} (x:bI E g a xs) (f:Upd g h fp fp') (ha:∀ A,a=some A→A.block∉fp):bI E h a xs:=⟨x.nil,fun A hA=>by
 have hr:=x.get A hA
 exact aOq hr (f.get _ (aG8 hr) (ha A hA)),x.sp⟩
theorem Kp.upd {g h:Hp} (k:Kp g h) (fp:List Nat):Upd g h fp fp:=⟨k.le,fun b hb _=>k.get b hb,fun b hb => .inl hb⟩
theorem Upd.one {g h h':Hp} {c:Nat} (hu:Upd g h [c] [c]) (k:Kp h h'):Upd g h' [c] [c]:=hu.trans (k.upd _)
theorem bI.cell {α:Type} {E:Enc α} {f:α→Value} (hE:∀ x,E.enc x=[f x]) (hz:E.sz=1) {h:Hp} {a:Option Addr} {us vs:List α} {x:α} (hs:bI E h a (us++x::vs)) :
  ∃ A ro C,a=some A∧h.get A.block=some (.cells ro C)∧C[A.off+us.length]?=some (f x):=by
 obtain ⟨A,rfl,hr⟩:=bI.mid hs
 obtain ⟨ro,C,hg,hC⟩:=aGz hr
 have h0:=hC 0 (by omega)
 rw[hE,hz] at h0
 exact ⟨A,ro,C,rfl,hg,by simpa using h0⟩
theorem aNf {h:Hp} {b:Nat} {C vs:List Value} (hg:h.get b=some (.cells false C)) (hn:C.length=vs.length) (h1:vs.all one=true):h.wr b 0 vs=some (h.put b (some (.cells false vs))):=by
 rw[aNb hg (by omega) h1]
 simp[over,← hn]
def aRq (l:List (BitVec 32)) (j:Nat):aCv:=(List.range 40).map fun i=>if 1≤i∧i<j then l.getD i 0#32 else 0#32
def rgs (l:List (BitVec 32)):aCv:=aRq l 40
@[simp] theorem aCx (l:List (BitVec 32)) (j:Nat):(aRq l j).length=40:=by simp[aRq]
@[simp] theorem aNE (l:List (BitVec 32)):(rgs l).length=40:=aCx _ _
@[simp] theorem aQZ {e:Env} {h:Hp} {n sz:Nat} {x:X} {lo hi mx:Option X}:opV e h (.sla n sz x lo hi mx)=(at? (x.ev e)).bind fun p=>(bounds n n (lo.map (·.ev e)) (hi.map (·.ev e)) (mx.map (·.ev e))).map fun b =>
   (.slice (some (if b.2.2=b.1 then ⟨p.1,p.2,none⟩ else ⟨p.1,p.2+b.1*sz,none⟩)) (b.2.1-b.1) (b.2.2-b.1),h):=rfl
@[simp] theorem aLR {n c:Nat}:bounds n c none none none=some (0,n,c):=by simp[bounds]
@[simp] theorem aCT {h:Hp} {o p:Ob}:(h.push o).put h.next (some p)=h.push p:=Hp.ext' rfl fun b=>by
 by_cases hb:b=h.next
 ·subst hb
  rw[aAj (by simp),aAH]
 ·rw[aAb hb,aAN hb,aAN hb]
@[simp] theorem aTJ {h:Hp} {C vs:List Value} (hn:C.length=vs.length) (h1:vs.all one=true):(h.push (.cells false C)).wr h.next 0 vs=some (h.push (.cells false vs)):=by
 rw[aNf aAH hn h1,aCT]
abbrev By:=List (BitVec 8)
def aLL:Enc (BitVec 8):=⟨1,fun x=>[u8 x],fun _=>rfl,fun _=>rfl,by decide⟩
@[simp] theorem aFz:aLL.sz=1:=rfl
theorem aEZ (B:By):aLL.all B=B.map u8:=by
 induction B with
 | nil=>rfl
 | cons x B ih=>rw[Enc.all_cons,ih]; rfl
def wdB (v:BitVec 32) (n:Nat):By:=(List.range n).map fun i=>(v>>>(8*(n-1-i))).setWidth 8
@[simp] theorem aNQ (v:BitVec 32) (n:Nat):(wdB v n).length=n:=by simp[wdB]
def tch (M W:List Bool) (a n:Nat):List Bool:=if n=0 then W else
 (List.range W.length).map fun i=>W.getD i false || (decide (a / 1024≤i∧i≤(a+n-1) / 1024)&&M.getD i false)
@[simp] theorem aND (M W:List Bool) (a n:Nat):(tch M W a n).length=W.length:=by
 unfold tch; split<;>simp
theorem aH6 {n:Nat} {z:Value}:(List.replicate n [z]).flatten=List.replicate n z:=by
 induction n with
 | zero=>rfl
 | succ n ih=>rw[List.replicate_succ,List.flatten_cons,ih,List.replicate_succ]; rfl
@[simp] theorem aNe {id y:Nat} {z:Value} {k j:IntKind} {n:Int} (h0:0≤n) (h1:y*n≤2^47) (h2:n<2^62):aGp id [z] y (.int k n) (.int j n)=some (.slice (some ⟨id,0,none⟩) n.toNat n.toNat,.cells false (List.replicate n.toNat z)):=by
 unfold aGp
 simp only[]
 rw[if_pos ⟨h0,Int.le_refl _,h1,h2⟩,aH6]
section
variable {sz b o n:Nat} {k j:IntKind} {lo hi:Int}
end
def tpg (M W:List Bool) (lo p:Nat):List Bool:=(List.range W.length).map fun i=>W.getD i false || (decide (lo≤i∧i<p)&&M.getD i false)
@[simp] theorem aNW (M W:List Bool) (lo p:Nat):(tpg M W lo p).length=W.length:=by simp[tpg]
def aTW (h:Hp):Value→Option Value
 | .slice none _ _=>some (.string .empty)
 | .slice (some a) n _=>((if n=0 then some [] else h.rdn a.block a.off n).bind fun c=>c.mapM fun | .int .u8 n=>some (UInt8.ofNat n.toNat) | _=>none).map fun l => .string ⟨l.toArray⟩
 | _=>none
@[simp] theorem aRh {e:Env} {h:Hp} {x:X}:opV e h (.b2s x)=(aTW h (x.ev e)).map fun v=>(v,h):=by
 simp only[opV,aTW]
 generalize x.ev e=v
 cases v with
 | slice a n c =>
  cases a with
  | none=>rfl
  | some a=>simp only[Option.map_map]; rfl
 | _=>rfl
def aPR (B:By):Value := .string ⟨(B.map fun c=>UInt8.ofNat c.toNat).toArray⟩
@[simp] theorem aIZ {s:ByteArray}:aG .eql (.string s) (.string s)=some (.bool true):=by simp[aG,aPD]
@[simp] theorem aIB {s:ByteArray}:aG .neq (.string s) (.string s)=some (.bool false):=by simp[aG,aPD]
@[simp] theorem aPs {B:By}:aG .eql (aPR B) (aPR B)=some (.bool true):=aIZ
@[simp] theorem aPP {B:By}:aG .neq (aPR B) (aPR B)=some (.bool false):=aIB
theorem aKb {T:Nat→Option Fn} {f:Nat} {s:Sp} {args:List Value} {h:Hp} {q:Value→Hp→Prop} (hf:T f=some (.spec s)):WC T f args h q↔∃ r,s args h=some r∧q r.1 r.2:=by
 constructor
 ·rintro ⟨n,v,h',h1,h2⟩
  cases n with
  | zero=>simp[aW] at h1
  | succ n =>
   simp only[aW,hf] at h1
   exact ⟨_,h1,h2⟩
 ·rintro ⟨⟨v,h'⟩,h1,h2⟩
  exact ⟨1,v,h',by simp only[aW,hf,h1],h2⟩
@[simp] theorem cells_chan {c:Option Nat}:(Value.chan c).cells = #[.chan c]:=by simp[Value.cells]
def aTB (h:Hp):Value→Option Value
 | .chan (some r)=>(match h.get r with | some (.chan _ buf)=>some (goInt buf.length) | _=>none)
 | _=>none
@[simp] theorem aPj {e:Env} {h:Hp} {x:X}:opV e h (.len 3 x)=(aTB h (x.ev e)).map fun v=>(v,h):=by
 simp only[opV,aTB]
 generalize x.ev e=v
 cases v with
 | chan r =>
  cases r with
  | none=>rfl
  | some r =>
   simp only[]
   cases h.get r with
   | none=>rfl
   | some o=>cases o<;>rfl
 | _=>rfl
end Go.Dx
