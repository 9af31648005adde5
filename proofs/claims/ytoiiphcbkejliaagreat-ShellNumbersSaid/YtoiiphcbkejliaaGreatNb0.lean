/- A text of this claim. -/
import Derived.Test.YtoiiphcbkejliaaGreatNa0
import Derived.LoopN
import Derived.Scope
set_option linter.unusedSimpArgs false
set_option linter.unusedVariables false
namespace Go.Dx
open Classical
abbrev Sp:=List Value→Hp→Option (Value×Hp)
def gd (e:Env):Option (Nat×Bool)→Option Bool
 | none=>some true
 | some (t,want)=>match e t with
  | .bool b=>some (b == want)
  | .tuple _=>some false
  | _=>none
def act (cl:Nat→Sp) (e:Env) (h:Hp):Op→Option (Value×Hp)
 | .call f xs=>cl f (evs e xs) h
 | .bC x xs=>match x.ev e with
  | .func (.func f) a caps=>if a.size=0 then cl f (evs e xs++caps.toList) h else none
  | _=>none
 | op=>opV e h op
def bF (cl:Nat→Sp) (o:O) (e:Env) (h:Hp):Option (Env×Hp) :=
 match gd e o.g with
 | none=>none
 | some false=>some (put e o.d undef,h)
 | some true=>(act cl e h o.o).map fun r=>(put e o.d r.1,r.2)
def aBa (cl:Nat→Sp):List O→Env→Hp→Option (Env×Hp)
 | [],e,h=>some (e,h)
 | o::l,e,h=>(bF cl o e h).bind fun r=>aBa cl l r.1 r.2
def aIb:Value→Value→Bool
 | .bool a,.bool b=>a == b
 | .int j a,.int k b=>j == k&&a == b
 | .string a,.string b=>a.data == b.data
 | .pointer none,.pointer none=>true
 | .pointer (some ⟨b,o,s⟩),.pointer (some ⟨b',o',s'⟩)=>b == b'&&o == o'&&s == s'
 | .slice none n c,.slice none n' c'=>n == n'&&c == c'
 | .slice (some ⟨b,o,s⟩) n c,.slice (some ⟨b',o',s'⟩) n' c'=>b == b'&&o == o'&&s == s'&&n == n'&&c == c'
 | .map a,.map b=>a == b
 | .chan a,.chan b=>a == b
 | .nilFunc,.nilFunc=>true
 | _,_=>false
def aKS:List Value→List Value→Bool
 | [],[]=>true
 | a::l,b::m=>aIb a b&&aKS l m
 | _,_=>false
def veq:Value→Value→Bool
 | .agg a,.agg b=>aKS a.toList b.toList
 | .tuple a,.tuple b=>aKS a.toList b.toList
 | a,b=>aIb a b
theorem aG5 {a b:Value} (h:aIb a b=true):a=b:=by
 unfold aIb at h
 split at h<;>simp_all
 apply ByteArray.ext
 simpa using h
theorem aGJ:∀ {l m:List Value},aKS l m=true→l=m:=by
 intro l
 induction l with
 | nil=>intro m h; cases m<;>simp_all [aKS]
 | cons a l ih =>
  intro m h
  cases m with
  | nil=>simp[aKS] at h
  | cons b m =>
   simp only[aKS,Bool.and_eq_true] at h
   rw[aG5 h.1,ih h.2]
theorem aOi {a b:Value} (h:veq a b=true):a=b:=by
 unfold veq at h
 split at h
 ·rw[Array.ext' (aGJ h)]
 ·rw[Array.ext' (aGJ h)]
 ·exact aG5 h
def aZ (cl:Nat→Sp) (base:Nat) (e:Env) (h:Hp):It→Option (Env×Hp)
 | .op _ o=>bF cl o e h
 | .al _ j o=>match gd e o.g with
  | none=>none
  | some false=>some (put e o.d undef,h)
  | some true=>(opA (base+j) e o.o).map fun r=>(put e o.d r.1,h.put (base+j) (some r.2))
 | .re _ o=>match gd e o.g with
  | none=>none
  | some false=>some (e,h)
  | some true=>match o.d,opV e h o.o with
   | some t,some (v,_)=>if veq v (e t)=true then some (e,h) else none
   | _,_=>none
def aBR (cl:Nat→Sp) (base:Nat):List It→Env→Hp→Option (Env×Hp)
 | [],e,h=>some (e,h)
 | o::l,e,h=>(aZ cl base e h o).bind fun r=>aBR cl base l r.1 r.2
inductive Ex where
 | n
 | x (id:Nat)
 | r
def aN (cl:Nat→Sp):Nat→C→Env→Hp→Option (Ex×Env×Hp)
 | 0,_,_,_=>none
 | _+1,.skip,e,h=>some (.n,e,h)
 | _+1,.ops l,e,h=>(aBa cl l e h).map fun r=>(.n,r.1,r.2)
 | _+1,.any k l,e,h=>(aBR cl h.next l e (h.adv k)).map fun r=>(.n,r.1,r.2)
 | n+1,.seq a b,e,h=>match aN cl n a e h with
  | some (.n,e,h)=>aN cl n b e h
  | r=>r
 | n+1,.cond c a b,e,h=>match c.ev e with
  | .bool t=>if t then aN cl n a e h else aN cl n b e h
  | _=>none
 | n+1,.block id a,e,h=>match aN cl n a e h with
  | some (.x j,e,h)=>if j=id then some (.n,e,h) else some (.x j,e,h)
  | r=>r
 | n+1,.loop a,e,h=>match aN cl n a e h with
  | some (.n,e,h)=>aN cl n (.loop a) e h
  | r=>r
 | _+1,.exit id,e,h=>some (.x id,e,h)
 | _+1,.ret,e,h=>some (.r,e,h)
def aBW (args:List Value):Env:=fun t=>(args[t]?).getD undef
def rv (e:Env) (h:Hp):RV→Option Value
 | .t n=>some (e n)
 | .ld n=>(at? (e n)).bind fun p=>h.rd p.1 p.2
 | .ldn k n=>(at? (e n)).bind fun p=>(h.rdn p.1 p.2 k).map fun c => .agg c.toArray
def resV (e:Env) (h:Hp):List RV→Option Value
 | [x]=>rv e h x
 | l=>(l.mapM (rv e h)).map fun vs => .tuple vs.toArray
def aCZ (n:Nat) (e:Env) (h:Hp):Option (List Nat)→Hp
 | none=>h.only n []
 | some l=>l.foldl (fun h t=>match at? (e t) with
  | some (b,_)=>if n≤b then h.put b none else h
  | none=>h) h
def aDt (cl:Nat→Sp) (n:Nat) (f:F):Sp:=fun args h =>
 match aN cl n f.body (aBW args) h with
 | some (.r,e,h') | some (.n,e,h')=>(resV e h' f.res).map fun v=>(v,aCZ h.next e h' f.drop)
 | _=>none
inductive Fn where
 | code (f:F)
 | spec (s:Sp)
def aW (T:Nat→Option Fn):Nat→Nat→Sp
 | 0,_=>fun _ _=>none
 | n+1,f=>match T f with
  | some (.code F)=>aDt (aW T n) n F
  | some (.spec s)=>s
  | none=>fun _ _=>none
def aV (P:Program) (f:Nat) (s:Sp):Prop:=∀ args h v h',s args h=some (v,h')→callable P f=true∧Le h h' ∧
 ∀ φ w args',LR φ args args'→HR φ h w→Calls P f args'.toArray w fun e w'=>∃ φ' u,e = .returned u∧Ext φ h w φ' h' w'∧VR φ' v u
section
variable {P:Program} {φ:Phi} {e e':Env} {a:Act} {h h':Hp} {w:World} {v:Value} {cl:Nat→Sp}
theorem aGB {b o:Nat} {vs:List Value} (hw:h.wr b o vs=some h'):Le h h':=by
 unfold Hp.wr at hw
 split at hw
 case h_2=>cases hw
 rename_i c hg
 split at hw
 ·cases hw; exact .put (.inl (by simp[hg]))
 ·cases hw
def isE:Op→Bool
 | .st .. | .stn .. | .s2b .. | .mset .. | .app .. | .cpy .. | .del .. | .clr .. | .clrm .. | .call .. | .bC .. => true
 | _=>false
def isR:Op→Bool
 | .ld .. | .ldn .. | .b2s .. | .look .. | .len .. | .ms .. => true
 | _=>false
theorem aY {x:Value} (hv:some (x,h)=some (v,h')):h'=h∧∀ g:Hp,some (x,g)=some (v,g):=by cases hv; exact ⟨rfl,fun g=>rfl⟩
theorem bK {α:Type} {f:Option α} {k:α→Value} (hv:f.map (fun x=>(k x,h))=some (v,h')):h'=h∧∀ g:Hp,f.map (fun x=>(k x,g))=some (v,g):=by
 cases f with
 | none=>cases hv
 | some x=>cases hv; exact ⟨rfl,fun g=>rfl⟩
theorem aIK {α β:Type} {f:Option α} {q:α→Option β} {k:α→β→Value} (hv:(f.bind fun x=>(q x).map fun y=>(k x y,h))=some (v,h')):h'=h∧∀ g:Hp,(f.bind fun x=>(q x).map fun y=>(k x y,g))=some (v,g):=by
 cases f with
 | none=>cases hv
 | some x=>exact bK (k:=k x) hv
theorem aPq {c:Prop} [Decidable c] {x:Value} (hv:(if c then some (x,h) else none)=some (v,h')):h'=h∧∀ g:Hp,(if c then some (x,g) else none)=some (v,g):=by
 split at hv
 ·rename_i hc; cases hv; exact ⟨rfl,fun g=>by rw[if_pos hc]⟩
 ·cases hv
theorem aIm {α:Type} {f:Option α} {c:α→Prop} [∀ x,Decidable (c x)] {k:α→Value} (hv:(f.bind fun x=>if c x then some (k x,h) else none)=some (v,h')):h'=h∧∀ g:Hp,(f.bind fun x=>if c x then some (k x,g) else none)=some (v,g):=by
 cases f with
 | none=>cases hv
 | some x=>exact aPq (x:=k x) hv
theorem aB3 {op:Op} (h1:isE op=false) (h2:isA op=false) (h3:isR op=false) (hv:opV e h op=some (v,h')):h'=h∧∀ g,opV e g op=some (v,g):=by
 cases op<;>simp[isE] at h1<;>simp[isA] at h2<;>simp[isR] at h3<;>simp only[opV] at hv ⊢
 case mov=>exact aY hv
 case mkf=>exact aY hv
 case lenk=>exact aY hv
 case build=>exact bK hv
 case bin=>exact bK hv
 case eqn=>exact bK hv
 case eqt=>exact bK hv
 case un=>exact bK hv
 case sl=>exact bK hv
 case fa=>exact bK hv
 case sla=>exact aIK hv
 case iaa=>exact aIK hv
 case pick c x y=>generalize c.ev e=cv at *; cases cv<;>first | (cases hv; done) | exact aY hv
 case nilc x =>
  generalize x.ev e=cv at *
  cases cv<;>first | (cases hv; done) | skip
  ·rename_i p; cases p<;>first | (cases hv; done) | exact aY hv
  ·rename_i f _ _; cases f<;>first | (cases hv; done) | exact aY hv
 case eqb n x y=>generalize x.ev e=xv at *; generalize y.ev e=yv at *; cases xv<;>cases yv<;>first | (cases hv; done) | exact aY hv
 case conv k x=>generalize x.ev e=cv at *; cases cv<;>first | (cases hv; done) | exact aY hv
 case sls x lo hi=>generalize x.ev e=cv at *; cases cv<;>first | (cases hv; done) | exact bK hv
 case fld o x=>generalize x.ev e=cv at *; cases cv<;>first | (cases hv; done) | exact bK hv
 case ext x i=>generalize x.ev e=cv at *; cases cv<;>first | (cases hv; done) | exact bK hv
 case fldn o n x=>generalize x.ev e=cv at *; cases cv<;>first | (cases hv; done) | exact aPq hv
 case ia sz x i =>
  generalize x.ev e=cv at *
  cases cv<;>first | (cases hv; done) | skip
  rename_i p _ _; cases p<;>first | (cases hv; done) | exact bK hv
 case ixs x i=>generalize x.ev e=cv at *; cases cv<;>first | (cases hv; done) | exact aIK hv
 case ixa n x i=>generalize x.ev e=cv at *; cases cv<;>first | (cases hv; done) | exact aIK hv
 case ixan n sz x i=>generalize x.ev e=cv at *; cases cv<;>first | (cases hv; done) | exact aIm (k:=fun k=>_) hv
 case mx x y=>generalize x.ev e=xv at *; generalize y.ev e=yv at *; cases xv<;>cases yv<;>first | (cases hv; done) | exact aPq hv
 case mn x y=>generalize x.ev e=xv at *; generalize y.ev e=yv at *; cases xv<;>cases yv<;>first | (cases hv; done) | exact aPq hv
def Hp.In (h g:Hp):Prop:=∀ b o,h.get b=some o→g.get b=some o
theorem In.cells {g:Hp} (hi:h.In g) {b:Nat} {c:List Value} (hb:h.cells b=some c):g.cells b=some c:=by
 obtain ⟨ro,hg⟩:=aB2 hb
 simp[Hp.cells,hi _ _ hg]
theorem In.rd {g:Hp} (hi:h.In g) {b o:Nat} {x:Value} (hb:h.rd b o=some x):g.rd b o=some x:=by
 obtain ⟨c,hc,hx⟩:=Option.bind_eq_some_iff.1 hb
 exact Option.bind_eq_some_iff.2 ⟨c,In.cells hi hc,hx⟩
theorem In.rdn {g:Hp} (hi:h.In g) {b o n:Nat} {x:List Value} (hb:h.rdn b o n=some x):g.rdn b o n=some x:=by
 obtain ⟨c,hc,hx⟩:=Option.bind_eq_some_iff.1 hb
 exact Option.bind_eq_some_iff.2 ⟨c,In.cells hi hc,hx⟩
theorem aCM {op:Op} (h3:isR op=true) (hv:opV e h op=some (v,h')):h'=h∧∀ g,h.In g→opV e g op=some (v,g):=by
 cases op<;>simp[isR] at h3<;>simp only[opV] at hv ⊢
 case ld x =>
  obtain ⟨p,hp,hv⟩:=Option.bind_eq_some_iff.1 hv
  obtain ⟨u,hu,hh⟩:=Option.map_eq_some_iff.1 hv
  cases hh
  exact ⟨rfl,fun g hi=>by rw[hp]; simp[In.rd hi hu]⟩
 case ldn n x =>
  obtain ⟨p,hp,hv⟩:=Option.bind_eq_some_iff.1 hv
  obtain ⟨u,hu,hh⟩:=Option.map_eq_some_iff.1 hv
  cases hh
  exact ⟨rfl,fun g hi=>by rw[hp]; simp[In.rdn hi hu]⟩
 case b2s x =>
  generalize x.ev e=cv at *
  cases cv<;>first | (cases hv; done) | skip
  rename_i p n c
  cases p with
  | none=>exact ⟨(aY hv).1,fun g _=>(aY hv).2 g⟩
  | some p =>
   obtain ⟨l,hl,hh⟩:=Option.map_eq_some_iff.1 hv
   cases hh
   obtain ⟨cs,hcs,hm⟩:=Option.bind_eq_some_iff.1 hl
   refine ⟨rfl,fun g hi=>Option.map_eq_some_iff.2 ⟨l,Option.bind_eq_some_iff.2 ⟨cs,?_,hm⟩,rfl⟩⟩
   split at hcs
   ·rename_i h0; rw[if_pos h0]; exact hcs
   ·rename_i h0; rw[if_neg h0]; exact In.rdn hi hcs
 case look t z ok m k =>
  generalize m.ev e=mv at *
  cases mv<;>first | (cases hv; done) | skip
  rename_i p
  cases p with
  | none=>exact ⟨(bK hv).1,fun g _=>(bK hv).2 g⟩
  | some r =>
   cases hg:h.get r with
   | none=>simp[hg] at hv
   | some ob =>
    cases ob<;>simp only[hg] at hv<;>first | (cases hv; done) | skip
    rename_i es
    exact ⟨(bK hv).1,fun g hi=>by simp only[hi _ _ hg]; exact (bK hv).2 g⟩
 case ms x =>
  generalize x.ev e=cv at *
  split at hv
  case h_2=>cases hv
  split at hv
  case h_2=>cases hv
  rename_i hg
  exact ⟨(aY hv).1,fun g hi=>by simp only[hi _ _ hg]; exact (aY hv).2 g⟩
 case len kd x =>
  generalize x.ev e=cv at *
  split at hv
  ·exact ⟨(aY hv).1,fun g _=>(aY hv).2 g⟩
  ·exact ⟨(aY hv).1,fun g _=>(aY hv).2 g⟩
  ·exact ⟨(aY hv).1,fun g _=>(aY hv).2 g⟩
  ·split at hv
   case h_2=>cases hv
   rename_i hg
   exact ⟨(aY hv).1,fun g hi=>by simp only[hi _ _ hg]; exact (aY hv).2 g⟩
  ·split at hv
   case h_2=>cases hv
   rename_i hg
   exact ⟨(aY hv).1,fun g hi=>by simp only[hi _ _ hg]; exact (aY hv).2 g⟩
  ·cases hv
theorem aOs {op:Op} (hv:opV e h op=some (v,h')):Le h h':=by
 by_cases hR:isR op=true
 ·rw[(aCM hR hv).1]; exact .refl _
 by_cases hE:isE op=true∨isA op=true
 case neg =>
  rw[(aB3 (by simpa using fun hh=>hE (.inl hh)) (by simpa using fun hh=>hE (.inr hh)) (by simpa using hR) hv).1]
  exact .refl _
 cases op<;>simp[isE,isA] at hE<;>simp only[opV] at hv
 case new=>obtain ⟨r,_,hh⟩:=Option.map_eq_some_iff.1 hv; cases hh; exact .push _ _
 case box=>obtain ⟨r,_,hh⟩:=Option.map_eq_some_iff.1 hv; cases hh; exact .push _ _
 case bsl=>obtain ⟨r,_,hh⟩:=Option.map_eq_some_iff.1 hv; cases hh; exact .push _ _
 case mkm=>obtain ⟨r,_,hh⟩:=Option.map_eq_some_iff.1 hv; cases hh; exact .push _ _
 case mkc=>obtain ⟨r,_,hh⟩:=Option.map_eq_some_iff.1 hv; cases hh; exact .push _ _
 case mks=>obtain ⟨r,_,hh⟩:=Option.map_eq_some_iff.1 hv; cases hh; exact .push _ _
 case st =>
  obtain ⟨p,_,hv⟩:=Option.bind_eq_some_iff.1 hv
  split at hv
  ·obtain ⟨g,hg,hh⟩:=Option.map_eq_some_iff.1 hv; cases hh; exact aGB hg
  ·cases hv
 case stn =>
  obtain ⟨p,_,hv⟩:=Option.bind_eq_some_iff.1 hv
  split at hv
  ·split at hv
   ·obtain ⟨g,hg,hh⟩:=Option.map_eq_some_iff.1 hv; cases hh; exact aGB hg
   ·cases hv
  ·cases hv
 case app =>
  unfold aAI at hv
  repeat' split at hv
  all_goals first
   | (cases hv; done)
   | (cases hv; exact .refl _)
   | (cases hv; exact .push _ _)
   | (obtain ⟨g,hg,hh⟩:=Option.map_eq_some_iff.1 hv; cases hh; exact aGB hg)
   | (cases hv; exact (Le.put (.inr rfl)).trans (.push _ _))
 case cpy =>
  unfold copyV at hv
  repeat' split at hv
  all_goals first
   | (cases hv; done)
   | (cases hv; exact .refl _)
   | (obtain ⟨g,hg,hh⟩:=Option.map_eq_some_iff.1 hv; cases hh; exact aGB hg)
 case s2b=>split at hv<;>first | (cases hv; exact .push _ _) | (cases hv; done)
 case mset =>
  repeat' split at hv
  all_goals first
   | (cases hv; done)
   | (cases hv; exact .put (.inl (by simp[*])))
 case del =>
  repeat' split at hv
  all_goals first
   | (cases hv; done)
   | (obtain ⟨g,hg,hh⟩:=Option.map_eq_some_iff.1 hv; cases hh; split<;>first | exact .refl _ | exact .put (.inl (by simp[*])))
 case clrm =>
  repeat' split at hv
  all_goals first
   | (cases hv; done)
   | (cases hv; exact .put (.inl (by simp[*])))
 case clr =>
  repeat' split at hv
  all_goals first
   | (cases hv; done)
   | (cases hv; exact .refl _)
   | (obtain ⟨g,hg,hh⟩:=Option.map_eq_some_iff.1 hv; cases hh; exact aGB hg)
 case call=>cases hv
 case bC=>cases hv
theorem aNq {op:Op} (hcl:∀ f,aV P f (cl f)) (hv:act cl e h op=some (v,h')):Le h h':=by
 unfold act at hv
 split at hv
 ·exact (hcl _ _ _ _ _ hv).2.1
 ·split at hv
  ·split at hv
   ·exact (hcl _ _ _ _ _ hv).2.1
   ·cases hv
  ·cases hv
 ·exact aOs hv
theorem aCP {o:O} (hcl:∀ f,aV P f (cl f)) (hv:bF cl o e h=some (e',h')):Le h h':=by
 unfold bF at hv
 split at hv
 ·cases hv
 ·cases hv; exact .refl _
 ·obtain ⟨r,hr,hh⟩:=Option.map_eq_some_iff.1 hv
  cases hh
  exact aNq hcl hr
theorem ER.put {d:Option Nat} {u:Value} (he:ER φ e a) (hv:VR φ v u) (hd:∀ t,d=some t→t<a.tmps.size):ER φ (put e d v) (a.put d u):=by
 cases d with
 | none=>exact he
 | some d =>
  intro t
  simp only[Dx.put,upd,Act.put,Act.eval]
  have hlt:=hd d rfl
  by_cases ht:t=d
  ·subst ht
   simp[hlt,hv]
  ·have hne:d≠t:=fun e=>ht e.symm
   simp only[ht,if_false]
   have:=he t
   simp only[Act.eval] at this
   simpa[Array.getElem?_setIfInBounds_ne hne] using this
theorem ER.mono {φ':Phi} (hs:Sub φ φ') (he:ER φ e a):ER φ' e a:=fun t=>(he t).mono hs
theorem size_put (a:Act) (d:Option Nat) (u:Value):(a.put d u).tmps.size=a.tmps.size:=by
 cases d<;>simp[Act.put]
theorem aAZ (a:Act) (d:Option Nat) (u:Value):(a.put d u).defers=a.defers:=by
 cases d<;>rfl
def aO1 (ops:Array Oper):Option (Nat×Bool)→Option (Option (Nat×Bool))
 | none=>some none
 | some (j,w)=>((ops[j]?).bind (·.dst)).map fun t=>some (t,w)
def aKX (n:Nat):Option Nat→Bool
 | some d=>decide (d<n)
 | none=>true
def aMv:Go.Op→Bool
 | .call { callee := .value _,.. }=>true
 | _=>false
def aCX (P:Program) (n:Nat) (ops:Array Oper) (o:Oper):Option O :=
 if aKX n o.dst=true then
  (aO1 ops o.guard).bind fun g=>(comp P o).bind fun op=>if aOL op=aMv o.op then some ⟨o.dst,g,op⟩ else none
 else none
theorem aCG {ops:Array Oper} {g:Option (Nat×Bool)} {b:Bool} {o:Oper} (hg:aO1 ops o.guard=some g) (he:ER φ e a) (hb:gd e g=some b):Region.wanted o (yielded ops a.tmps)=b:=by
 unfold Region.wanted
 cases ho:o.guard with
 | none =>
  rw[ho] at hg
  cases hg
  simp[gd] at hb
  exact hb.symm
 | some jw =>
  obtain ⟨j,wt⟩:=jw
  rw[ho] at hg
  obtain ⟨t,ht,rfl⟩:=Option.map_eq_some_iff.1 hg
  simp only[gd] at hb
  have hv:=he t
  split at hb
  ·rename_i c hc
   rw[hc] at hv
   have h2:=hv.aAM
   simp only[Act.eval] at h2
   have h3:a.tmps[t]?=some (.bool c):=by
    rw[Array.getD_eq_getD_getElem?] at h2
    cases h4:a.tmps[t]? with
    | none=>rw[h4] at h2; simp[undef] at h2
    | some x=>rw[h4] at h2; simpa using h2
   simp only[yielded,ht,Option.bind_some,h3]
   simp only[Option.some.injEq] at hb
   subst hb
   cases c<;>cases wt<;>rfl
  ·rename_i cs hc
   rw[hc] at hv
   obtain ⟨cs',h2,_⟩:=hv.aCj
   simp only[Act.eval,Array.getD_eq_getD_getElem?] at h2
   cases hb
   cases h4:a.tmps[t]? with
   | none=>simp[yielded,ht,h4]
   | some x =>
    rw[h4] at h2
    simp only[Option.getD_some] at h2
    subst h2
    simp[yielded,ht,h4]
  ·cases hb
def Then (φ:Phi) (h:Hp) (w:World) (e':Env) (h':Hp) (a:Act) (K:Act→World→Prop):Prop :=
 ∀ φ' a' w',Ext φ h w φ' h' w'→ER φ' e' a'→a'.tmps.size=a.tmps.size→a'.defers=a.defers→K a' w'
theorem aBT {ρ:Operand→Value} {args:Array Operand} {ts:Array TypeId} {ty:TypeId} {fo:Operand} {f:Nat} {caps:Array Value} (hf:ρ fo = .func (.func f) #[] caps) (hcal:callable P f=true) :
  (do let d ← resolve ρ { callee := .value fo,args,argTypes:=ts } ty; invoke d.target d.args:Sem Next).run P w = .ok (.enter f (args.map ρ++caps)) w:=by
 unfold callable at hcal
 cases hfn:P.funcs[f]? with
 | none=>simp[hfn] at hcal
 | some fn =>
  simp only[hfn,Bool.and_eq_true,bne_iff_ne,ne_eq] at hcal
  obtain ⟨hname,hbody⟩:=hcal
  have hn:(fn.name == "runtime.NumGoroutine")=false:=by simpa using hname
  have hb:¬ (fn.body=none):=by intro hh; rw[hh] at hbody; cases hbody
  simp[resolve,hf,Deferred.ofValue,invoke,callFunc,hfn,hname,hb]
theorem aCe {o:Oper} {op:Op} (hc:comp P o=some op) (hcall:aMv o.op=true):∃ fo args ts,o.op = .call { callee := .value fo,args,argTypes:=ts } ∧
  ((∃ f xs,fo = .func f∧op = .call f xs∧cxs args.toList=some xs)∨(∃ x xs,op = .bC x xs∧cx fo=some x∧cxs args.toList=some xs)):=by
 obtain ⟨dst,gop,ty,pos,after,guard⟩:=o
 cases gop<;>simp[aMv] at hcall<;>simp only[comp] at hc
 case call c =>
  obtain ⟨callee,args,ts⟩:=c
  cases callee with
  | builtin b=>simp[aMv] at hcall
  | invoke r m=>cases hc
  | value f =>
   cases f with
   | func f =>
    simp only at hc
    split at hc
    ·obtain ⟨l,hl,rfl⟩:=Option.map_eq_some_iff.1 hc
     exact ⟨_,args,ts,rfl,.inl ⟨f,l,rfl,rfl,hl⟩⟩
    ·cases hc
   | tmp t =>
    obtain ⟨x,hx,hc⟩:=Option.bind_eq_some_iff.1 hc
    obtain ⟨l,hl,rfl⟩:=Option.map_eq_some_iff.1 hc
    exact ⟨_,args,ts,rfl,.inr ⟨x,l,rfl,hx,hl⟩⟩
   | const t =>
    obtain ⟨x,hx,hc⟩:=Option.bind_eq_some_iff.1 hc
    obtain ⟨l,hl,rfl⟩:=Option.map_eq_some_iff.1 hc
    exact ⟨_,args,ts,rfl,.inr ⟨x,l,rfl,hx,hl⟩⟩
   | global t =>
    obtain ⟨x,hx,hc⟩:=Option.bind_eq_some_iff.1 hc
    simp[cx] at hx
theorem aEf {dst:Option Tmp} {gop:Go.Op} {ty:TypeId} {pos:String} {after:Array Edge} {guard:Option (Nat×Bool)} {f:Nat} {xs:List X} (hg:aMv gop=true) (hc:comp P ⟨dst,gop,ty,pos,after,guard⟩=some (.call f xs)) :
  ∃ args ts,gop = .call { callee := .value (.func f),args,argTypes:=ts }∧cxs args.toList=some xs:=by
 obtain ⟨fo,args,ts,h1,h2⟩:=aCe hc hg
 rcases h2 with ⟨g,ys,h3,h4,h5⟩ | ⟨x,ys,h3,_⟩
 ·cases h4; subst h3; exact ⟨args,ts,h1,h5⟩
 ·cases h3
theorem aDD {dst:Option Tmp} {gop:Go.Op} {ty:TypeId} {pos:String} {after:Array Edge} {guard:Option (Nat×Bool)} {x:X} {xs:List X} (hg:aMv gop=true) (hc:comp P ⟨dst,gop,ty,pos,after,guard⟩=some (.bC x xs)) :
  ∃ fo args ts,gop = .call { callee := .value fo,args,argTypes:=ts }∧cx fo=some x∧cxs args.toList=some xs:=by
 obtain ⟨fo,args,ts,h1,h2⟩:=aCe hc hg
 rcases h2 with ⟨g,ys,_,h4,_⟩ | ⟨x,ys,h3,h4,h5⟩
 ·cases h4
 ·cases h3; exact ⟨fo,args,ts,h1,h4,h5⟩
theorem aDv {ops:Array Oper} {o:Oper} {oo:O} {n:Nat} {K:Act→World→Prop} {Q:Exit→Act→World→Prop} (hcl:∀ f,aV P f (cl f)) (hc:aCX P n ops o=some oo) (hrun:bF cl oo e h=some (e',h'))
  (he:ER φ e a) (hr:HR φ h w) (hn:n≤a.tmps.size) (hK:Then φ h w e' h' a K) :
  if Region.wanted o (yielded ops a.tmps) then o.wp P a w K Q else K (a.put o.dst undef) w:=by
 unfold aCX at hc
 split at hc
 case isFalse=>cases hc
 rename_i hd
 obtain ⟨g,hg,hc⟩:=Option.bind_eq_some_iff.1 hc
 obtain ⟨op,hop,hc⟩:=Option.bind_eq_some_iff.1 hc
 split at hc
 case isFalse=>cases hc
 rename_i hcallk
 cases hc
 have hdl:∀ t,o.dst=some t→t<a.tmps.size:=fun t ht=>by
  rw[ht] at hd
  simp[aKX] at hd
  exact Nat.lt_of_lt_of_le hd hn
 unfold bF at hrun
 split at hrun
 ·cases hrun
 ·rename_i hb
  cases hrun
  rw[aCG hg he hb]
  simp only[Bool.false_eq_true,if_false]
  exact hK φ _ w (.refl hr) (he.put (.undef _) hdl) (size_put _ _ _) (aAZ _ _ _)
 ·rename_i hb
  obtain ⟨⟨v,h1⟩,hact,hh⟩:=Option.map_eq_some_iff.1 hrun
  cases hh
  rw[aCG hg he hb]
  simp only[if_true]
  have call:∀ (f:Nat) (vs us:List Value),cl f vs h=some (v,h1)→LR φ vs us→(execOp a.eval o).run P w = .ok (.enter f us.toArray) w→o.wp P a w K Q:=by
   intro f vs us hs hl hx
   unfold Oper.wp
   rw[hx,Oper.upon_enter]
   refine ((hcl f vs h v h1 hs).2.2 φ w us hl hr).mono fun en w' hen=>?_
   obtain ⟨φ',u,rfl,hext,hvr⟩:=hen
   exact hK φ' _ w' hext ((he.mono hext.sub).put hvr hdl) (size_put _ _ _) (aAZ _ _ _)
  have plain:opV e h op=some (v,h1)→o.wp P a w K Q:=by
   intro hv
   obtain ⟨φ',u,w',hor,hext,hvr⟩:=aHl hop he hr hv
   unfold Oper.wp
   rcases hor with hx | ⟨hx,rfl⟩
   ·rw[hx,Oper.upon_value]
    exact hK φ' _ w' hext ((he.mono hext.sub).put hvr hdl) (size_put _ _ _) (aAZ _ _ _)
   ·rw[hx,Oper.upon_skip]
    exact hK φ' _ w' hext ((he.mono hext.sub).put hvr hdl) (size_put _ _ _) (aAZ _ _ _)
  cases op with
  | call f xs =>
   simp only[act] at hact
   obtain ⟨dst,gop,ty,pos,after,guard⟩:=o
   have hsh:∃ args ts,gop = .call { callee := .value (.func f),args,argTypes:=ts }∧cxs args.toList=some xs:=aEf hcallk.symm hop
   obtain ⟨args,ts,rfl,hxs⟩:=hsh
   have hl:=aFx hxs he
   refine call f _ _ hact hl ?_
   have:=aBT (P:=P) (w:=w) (ρ:=a.eval) (args:=args) (ts:=ts) (ty:=ty) (fo := .func f) (f:=f) (caps := #[]) rfl (hcl f _ _ _ _ hact).1
   simp only[execOp]
   rw[this]
   congr 2
   apply Array.ext'
   simp
  | bC x xs =>
   simp only[act] at hact
   split at hact
   case h_2=>cases hact
   rename_i f first caps hx
   split at hact
   case isFalse=>cases hact
   rename_i h0
   obtain ⟨dst,gop,ty,pos,after,guard⟩:=o
   have hsh:∃ fo args ts,gop = .call { callee := .value fo,args,argTypes:=ts }∧cx fo=some x∧cxs args.toList=some xs:=aDD hcallk.symm hop
   obtain ⟨fo,args,ts,rfl,hfo,hxs⟩:=hsh
   have hl:=aFx hxs he
   have hfv:=aI hfo he
   rw[hx] at hfv
   obtain ⟨k,caps',hk,hz,hu,hlc⟩:=hfv.aE1
   cases hk
   refine call f _ _ hact (hl.append hlc) ?_
   have:=aBT (P:=P) (w:=w) (ρ:=a.eval) (args:=args) (ts:=ts) (ty:=ty) (fo:=fo) (f:=f) (caps:=caps') hu (hcl f _ _ _ _ hact).1
   simp only[execOp]
   rw[this]
   congr 2
   apply Array.ext'
   simp
  | _=>exact plain hact
end
def aBV (P:Program) (n:Nat) (any:Array Oper→Option (Nat×List It)):Code→Option C
 | .skip | .label _=>some .skip
 | .region _ ops false=>(ops.toList.mapM (aCX P n ops)).map .ops
 | .region _ ops true=>(any ops).map fun r => .any r.1 r.2
 | .seq a b=>(aBV P n any a).bind fun x=>(aBV P n any b).map fun y => .seq x y
 | .cond c a b=>(cx c).bind fun c=>(aBV P n any a).bind fun x=>(aBV P n any b).map fun y => .cond c x y
 | .block id a=>(aBV P n any a).map (.block id)
 | .loop a=>(aBV P n any a).map .loop
 | .scope a=>aBV P n any a
 | .exit id=>some (.exit id)
 | .ret=>some .ret
 | _=>none
def aOZ:Ex→Exit
 | .n => .normal
 | .x id => .exit id
 | .r => .ret
section
variable {P:Program} {φ φ₁:Phi} {e e' e₁:Env} {a a₁:Act} {h h' h₁:Hp} {w w₁:World} {v:Value} {cl:Nat→Sp}
theorem Then.step {K:Act→World→Prop} (ht:Then φ h w e' h' a K) (hr:HR φ h w) (x:Ext φ h w φ₁ h₁ w₁) (hle:Le h h₁) (hs:a₁.tmps.size=a.tmps.size) (hd:a₁.defers=a.defers):Then φ₁ h₁ w₁ e' h' a₁ K :=
 fun φ' a' w' y he hs' hd'=>ht φ' a' w' (x.trans hr y hle) he (hs'.trans hs) (hd'.trans hd)
theorem Then.drew {K:Act→World→Prop} (ht:Then φ h w e' h' a K) (n:Nat):Then φ h { w with drawn:=n } e' h' a K :=
 fun φ' a' w' y he hs' hd'=>ht φ' a' w' y.drew he hs' hd'
theorem aO5 {l:List O} (hcl:∀ f,aV P f (cl f)) (hrun:aBa cl l e h=some (e',h')):Le h h':=by
 induction l generalizing e h with
 | nil=>cases hrun; exact .refl _
 | cons o l ih =>
  obtain ⟨⟨e₁,h₁⟩,h1,h2⟩:=Option.bind_eq_some_iff.1 hrun
  exact (aCP hcl h1).trans (ih h2)
theorem aON {ops:Array Oper} {n:Nat} {Q:Exit→Act→World→Prop} (hcl:∀ f,aV P f (cl f)) (l:List Oper):∀ (l':List O) (e:Env) (h:Hp) (a:Act) (w:World) (φ:Phi),
  l.mapM (aCX P n ops)=some l'→aBa cl l' e h=some (e',h')→ER φ e a→HR φ h w→n≤a.tmps.size→Then φ h w e' h' a (Q .normal)→wpList P ops Q l a w:=by
 induction l with
 | nil =>
  intro l' e h a w φ hc hrun he hr hn hK
  simp at hc
  subst hc
  cases hrun
  exact hK φ a w (.refl hr) he rfl rfl
 | cons o l ih =>
  intro l' e h a w φ hc hrun he hr hn hK
  rw[List.mapM_cons] at hc
  obtain ⟨oo,h1,hc⟩:=Option.bind_eq_some_iff.1 hc
  obtain ⟨l₂,h2,hc⟩:=Option.bind_eq_some_iff.1 hc
  cases hc
  obtain ⟨⟨e₁,h₁⟩,h3,h4⟩:=Option.bind_eq_some_iff.1 hrun
  refine wpList_step fun K hk=>aDv hcl h1 h3 he hr hn fun φ' a' w' hx he' hs hd=>hk a' w' ?_
  exact ih l₂ e₁ h₁ a' w' φ' h2 h4 he' hx.hr (by omega) (hK.step hr hx (aCP hcl h3) hs hd)
theorem aO3 {base:Nat} {l:List It} (hcl:∀ f,aV P f (cl f)) {g:Hp} (hb:g.next≤base) (hg:g.next≤h.next∧∀ b,b<g.next→g.get b=none→h.get b=none) (hrun:aBR cl base l e h=some (e',h')):Le g h':=by
 induction l generalizing e h with
 | nil=>cases hrun; exact hg
 | cons o l ih =>
  obtain ⟨⟨e₁,h₁⟩,h1,h2⟩:=Option.bind_eq_some_iff.1 hrun
  refine ih ?_ h2
  unfold aZ at h1
  split at h1
  ·exact Le.trans hg (aCP hcl h1)
  ·split at h1
   ·cases h1
   ·cases h1; exact hg
   ·obtain ⟨r,hr,hh⟩:=Option.map_eq_some_iff.1 h1
    cases hh
    refine ⟨hg.1,fun b hlt hn=>?_⟩
    simp only[Hp.put]
    rw[if_neg (by omega)]
    exact hg.2 b hlt hn
  ·split at h1
   ·cases h1
   ·cases h1; exact hg
   ·split at h1
    ·split at h1
     ·cases h1; exact hg
     ·cases h1
    ·cases h1
theorem aDH (hcl:∀ f,aV P f (cl f)) (m:Nat):∀ (c:C) (e:Env) (h:Hp) (x:Ex) {e':Env} {h':Hp},aN cl m c e h=some (x,e',h')→Le h h':=by
 induction m with
 | zero=>intro c e h x e' h' hr; simp[aN] at hr
 | succ m ih =>
  intro c e h x e' h' hr
  cases c with
  | skip=>simp only[aN] at hr; cases hr; exact .refl _
  | ops l =>
   simp only[aN] at hr
   obtain ⟨r,h1,h2⟩:=Option.map_eq_some_iff.1 hr
   cases h2
   exact aO5 hcl h1
  | any k l =>
   simp only[aN] at hr
   obtain ⟨r,h1,h2⟩:=Option.map_eq_some_iff.1 hr
   cases h2
   exact aO3 hcl (Nat.le_refl _) (Le.adv h k) h1
  | seq c d =>
   simp only[aN] at hr
   split at hr
   ·rename_i h1
    exact (ih _ _ _ _ h1).trans (ih _ _ _ _ hr)
   ·exact ih _ _ _ _ hr
  | cond c x y =>
   simp only[aN] at hr
   split at hr
   ·split at hr<;>exact ih _ _ _ _ hr
   ·cases hr
  | block id c =>
   simp only[aN] at hr
   split at hr
   ·rename_i h1
    split at hr<;>(cases hr; exact ih _ _ _ _ h1)
   ·exact ih _ _ _ _ hr
  | loop c =>
   simp only[aN] at hr
   split at hr
   ·rename_i h1
    exact (ih _ _ _ _ h1).trans (ih _ _ _ _ hr)
   ·exact ih _ _ _ _ hr
  | exit id=>simp only[aN] at hr; cases hr; exact .refl _
  | ret=>simp only[aN] at hr; cases hr; exact .refl _
def aIy (P:Program) (n:Nat) (any:Array Oper→Option (Nat×List It)):Prop :=
 ∀ (cl:Nat→Sp),(∀ f,aV P f (cl f))→∀ (ops:Array Oper) (k:Nat) (l:List It),any ops=some (k,l)→∀ (id:Nat) (e e':Env) (h h':Hp) (a:Act) (w:World) (φ:Phi) (Q:Exit→Act→World→Prop),
  aBR cl h.next l e (h.adv k)=some (e',h')→ER φ e a→HR φ h w→n≤a.tmps.size→Then φ h w e' h' a (Q .normal)→(Code.region id ops true).wp P Q a w
variable {n:Nat} {any:Array Oper→Option (Nat×List It)}
theorem aMH (hcl:∀ f,aV P f (cl f)) (hany:aIy P n any) (m:Nat) :
  (∀ (c:Code) (cc:C) (e e':Env) (h h':Hp) (x:Ex) (a:Act) (w:World) (φ:Phi) (Q:Exit→Act→World→Prop),aBV P n any c=some cc→aN cl m cc e h=some (x,e',h')→ER φ e a→HR φ h w→n≤a.tmps.size →
   Then φ h w e' h' a (Q (aOZ x))→c.wp P Q a w) ∧
  (∀ (c:Code) (cc:C) (e e':Env) (h h':Hp) (x:Ex) (a:Act) (w:World) (φ:Phi) (Q:Exit→Act→World→Prop),aBV P n any c=some cc→aN cl m (.loop cc) e h=some (x,e',h')→ER φ e a→HR φ h w→n≤a.tmps.size →
   Then φ h w e' h' a (Q (aOZ x))→Code.rounds P c Q m a w):=by
 induction m with
 | zero=>exact ⟨fun c cc e e' h h' x a w φ Q _ hr=>by simp[aN] at hr,fun c cc e e' h h' x a w φ Q _ hr=>by simp[aN] at hr⟩
 | succ m ih =>
  have loop:∀ (c:Code) (cc:C) (e e':Env) (h h':Hp) (x:Ex) (a:Act) (w:World) (φ:Phi) (Q:Exit→Act→World→Prop),aBV P n any c=some cc→aN cl (m+1) (.loop cc) e h=some (x,e',h')→ER φ e a→HR φ h w→n≤a.tmps.size →
   Then φ h w e' h' a (Q (aOZ x))→Code.rounds P c Q (m+1) a w:=by
   intro c cc e e' h h' x a w φ Q hc hrun he hr hn hK
   rw[rounds_succ]
   simp only[aN] at hrun
   split at hrun
   ·rename_i e₁ h₁ h1
    refine ih.1 c cc e e₁ h h₁ .n a w φ _ hc h1 he hr hn fun φ' a' w' hx he' hs hd=>?_
    exact ih.2 c cc e₁ e' h₁ h' x a' w' φ' Q hc hrun he' hx.hr (by omega) (hK.step hr hx (aDH hcl m _ _ _ _ h1) hs hd)
   ·rename_i hne
    cases x with
    | n=>exact absurd hrun (hne _ _)
    | x id=>exact ih.1 c cc e e' h h' _ a w φ _ hc hrun he hr hn hK
    | r=>exact ih.1 c cc e e' h h' _ a w φ _ hc hrun he hr hn hK
  refine ⟨?_,loop⟩
  intro c
  induction c with
  | skip =>
   intro cc e e' h h' x a w φ Q hc hrun he hr hn hK
   cases hc
   simp only[aN] at hrun
   cases hrun
   exact wp_skip (hK φ a w (.refl hr) he rfl rfl)
  | label l =>
   intro cc e e' h h' x a w φ Q hc hrun he hr hn hK
   cases hc
   simp only[aN] at hrun
   cases hrun
   exact wp_label (hK φ a w (.refl hr) he rfl rfl)
  | region id ops d =>
   intro cc e e' h h' x a w φ Q hc hrun he hr hn hK
   cases d with
   | false =>
    obtain ⟨l,h1,rfl⟩:=Option.map_eq_some_iff.1 hc
    simp only[aN] at hrun
    obtain ⟨r,h2,h3⟩:=Option.map_eq_some_iff.1 hrun
    cases h3
    exact wp_region_list (aON hcl _ l e h a w φ h1 h2 he hr hn hK)
   | true =>
    obtain ⟨⟨k,l⟩,h1,rfl⟩:=Option.map_eq_some_iff.1 hc
    simp only[aN] at hrun
    obtain ⟨r,h2,h3⟩:=Option.map_eq_some_iff.1 hrun
    cases h3
    exact hany cl hcl ops k l h1 id e _ h _ a w φ Q h2 he hr hn hK
  | seq c d ihc ihd =>
   intro cc e e' h h' x a w φ Q hc hrun he hr hn hK
   obtain ⟨c',h1,hc⟩:=Option.bind_eq_some_iff.1 hc
   obtain ⟨d',h2,rfl⟩:=Option.map_eq_some_iff.1 hc
   simp only[aN] at hrun
   refine wp_seq ?_
   split at hrun
   ·rename_i e₁ h₁ h3
    refine ih.1 c c' e e₁ h h₁ .n a w φ _ h1 h3 he hr hn fun φ' a' w' hx he' hs hd=>?_
    exact ih.1 d d' e₁ e' h₁ h' x a' w' φ' Q h2 hrun he' hx.hr (by omega) (hK.step hr hx (aDH hcl m _ _ _ _ h3) hs hd)
   ·rename_i hne
    cases x with
    | n=>exact absurd hrun (hne _ _)
    | x id=>exact ih.1 c c' e e' h h' _ a w φ _ h1 hrun he hr hn hK
    | r=>exact ih.1 c c' e e' h h' _ a w φ _ h1 hrun he hr hn hK
  | cond c t f iht ihf =>
   intro cc e e' h h' x a w φ Q hc hrun he hr hn hK
   obtain ⟨c',h0,hc⟩:=Option.bind_eq_some_iff.1 hc
   obtain ⟨t',h1,hc⟩:=Option.bind_eq_some_iff.1 hc
   obtain ⟨f',h2,rfl⟩:=Option.map_eq_some_iff.1 hc
   simp only[aN] at hrun
   split at hrun
   case h_2=>cases hrun
   rename_i b hb
   have hv:=aI h0 he
   rw[hb] at hv
   refine wp_cond hv.aAM ?_
   cases b
   ·simp only[Bool.false_eq_true,if_false] at hrun ⊢
    exact ih.1 f f' e e' h h' x a w φ Q h2 hrun he hr hn hK
   ·simp only[if_true] at hrun ⊢
    exact ih.1 t t' e e' h h' x a w φ Q h1 hrun he hr hn hK
  | block id c ihc =>
   intro cc e e' h h' x a w φ Q hc hrun he hr hn hK
   obtain ⟨c',h1,rfl⟩:=Option.map_eq_some_iff.1 hc
   simp only[aN] at hrun
   refine wp_block ?_
   split at hrun
   ·rename_i j e₁ h₁ h3
    split at hrun
    ·rename_i hj
     cases hrun
     refine ih.1 c c' e _ h _ (.x j) a w φ _ h1 h3 he hr hn fun φ' a' w' hx he' hs hd=>?_
     simp only[aOZ,Exit.inBlock,hj,if_true]
     exact hK φ' a' w' hx he' hs hd
    ·rename_i hj
     cases hrun
     refine ih.1 c c' e _ h _ (.x j) a w φ _ h1 h3 he hr hn fun φ' a' w' hx he' hs hd=>?_
     simp only[aOZ,Exit.inBlock,hj,if_false]
     exact hK φ' a' w' hx he' hs hd
   ·rename_i hne
    cases x with
    | n=>exact ih.1 c c' e e' h h' _ a w φ _ h1 hrun he hr hn hK
    | x id=>exact absurd hrun (hne _ _ _)
    | r=>exact ih.1 c c' e e' h h' _ a w φ _ h1 hrun he hr hn hK
  | loop c ihc =>
   intro cc e e' h h' x a w φ Q hc hrun he hr hn hK
   obtain ⟨c',h1,rfl⟩:=Option.map_eq_some_iff.1 hc
   exact wp_loop_rounds (m+1) (loop c c' e e' h h' x a w φ Q h1 hrun he hr hn hK)
  | scope c ihc =>
   intro cc e e' h h' x a w φ Q hc hrun he hr hn hK
   refine wp_scope_straight (ihc cc e e' h h' x a w φ _ hc hrun he hr hn fun φ' a' w' hx he' hs hd=>?_)
   have:=hK φ' a' w' hx he' hs hd
   cases x<;>exact this
  | exit id =>
   intro cc e e' h h' x a w φ Q hc hrun he hr hn hK
   cases hc
   simp only[aN] at hrun
   cases hrun
   exact wp_exit (hK φ a w (.refl hr) he rfl rfl)
  | ret =>
   intro cc e e' h h' x a w φ Q hc hrun he hr hn hK
   cases hc
   simp only[aN] at hrun
   cases hrun
   exact wp_ret (hK φ a w (.refl hr) he rfl rfl)
  | rangeFunc f ps asg body _ _=>intro cc e e' h h' x a w φ Q hc; cases hc
  | goto l=>intro cc e e' h h' x a w φ Q hc; cases hc
  | refuse s=>intro cc e e' h h' x a w φ Q hc; cases hc
end
def aGU (P:Program):ResultVar→Option RV
 | .tmp t=>some (.t t)
 | .cell a t=>(aT P t).map fun b=>if b then .ldn (P.cellsOf t) a else .ld a
def aD5 (P:Program) (any:Nat→Array Oper→Option (Nat×List It)) (f:Nat):Option (C×List RV) :=
 match P.funcs[f]? with
 | some fn=>match fn.body with
  | some c=>if callable P f=true then (aBV P fn.ntmps (any fn.ntmps) c).bind fun c=>(fn.results.toList.mapM (aGU P)).map fun r=>(c,r) else none
  | none=>none
 | none=>none
section
variable {P:Program} {φ:Phi} {e e':Env} {a:Act} {h h':Hp} {w:World} {v:Value} {cl:Nat→Sp}
theorem aIv {r:ResultVar} {x:RV} (hc:aGU P r=some x) (he:ER φ e a) (hr:HR φ h w) (hv:rv e h x=some v) :
  ∃ u,((match r with
   | .tmp t=>Pure.pure (a.tmps.getD t undef)
   | .cell b t=>do loadVar t (← asAddr (a.tmps.getD b undef))):Sem Value).run P w = .ok u w∧VR φ v u:=by
 cases r with
 | tmp t =>
  cases hc
  simp only[rv,Option.some.injEq] at hv
  subst hv
  exact ⟨_,rfl,by simpa[Act.eval] using he t⟩
 | cell b t =>
  obtain ⟨g,hg,rfl⟩:=Option.map_eq_some_iff.1 hc
  have hx:VR φ (e b) (a.tmps.getD b undef):=by simpa[Act.eval] using he b
  cases g with
  | false =>
   simp only[Bool.false_eq_true,if_false] at hv
   obtain ⟨⟨c,o⟩,hp,hv⟩:=Option.bind_eq_some_iff.1 hv
   obtain ⟨b',n,hu,hφ,_⟩:=hx.at hp
   obtain ⟨y,hy,hvy⟩:=hr.rd hv hφ
   refine ⟨y,?_,hvy⟩
   simp only[]
   rw[hu]
   simp[asAddr,loadVar,aA1 hg,hy]
  | true =>
   simp only[if_true] at hv
   obtain ⟨⟨c,o⟩,hp,hv⟩:=Option.bind_eq_some_iff.1 hv
   obtain ⟨l,hl,rfl⟩:=Option.map_eq_some_iff.1 hv
   obtain ⟨b',n,hu,hφ,_⟩:=hx.at hp
   obtain ⟨y,hy,hvy,_,_⟩:=hr.rdn (P:=P) hl hφ
   refine ⟨_,?_,VR.aH2 hvy⟩
   simp only[]
   rw[hu]
   simp[asAddr,loadVar,aA1 hg,aAC hg,hy w rfl]
theorem aFt {l:List ResultVar} {xs:List RV} (hc:l.mapM (aGU P)=some xs) (he:ER φ e a) (hr:HR φ h w) {vs:List Value} (hv:xs.mapM (rv e h)=some vs) :
  ∃ us,(l.mapM fun r=>(match r with
   | .tmp t=>Pure.pure (a.tmps.getD t undef)
   | .cell b t=>do loadVar t (← asAddr (a.tmps.getD b undef)):Sem Value)).run P w = .ok us w∧LR φ vs us:=by
 induction l generalizing xs vs with
 | nil =>
  simp at hc
  subst hc
  simp at hv
  subst hv
  exact ⟨[],by simp,.nil _⟩
 | cons r l ih =>
  rw[List.mapM_cons] at hc
  obtain ⟨x,h1,hc⟩:=Option.bind_eq_some_iff.1 hc
  obtain ⟨xs,h2,hc⟩:=Option.bind_eq_some_iff.1 hc
  cases hc
  rw[List.mapM_cons] at hv
  obtain ⟨v,h3,hv⟩:=Option.bind_eq_some_iff.1 hv
  obtain ⟨vs,h4,hv⟩:=Option.bind_eq_some_iff.1 hv
  cases hv
  obtain ⟨u,h5,h6⟩:=aIv h1 he hr h3
  obtain ⟨us,h7,h8⟩:=ih h2 h4
  refine ⟨u::us,?_,.cons h6 h8⟩
  rw[List.mapM_cons]
  simp only[Sem.run_bind,h5,h7,Result.andThen_ok,Sem.run_pure]
theorem aGj {fn:Func} {xs:List RV} (hc:fn.results.toList.mapM (aGU P)=some xs) (he:ER φ e a) (hr:HR φ h w) (hv:resV e h xs=some v) :
  ∃ u,(results fn a.tmps).run P w = .ok u w∧VR φ v u:=by
 have key:∀ vs,xs.mapM (rv e h)=some vs→∃ us,(fn.results.mapM fun r=>(match r with
   | .tmp t=>Pure.pure (a.tmps.getD t undef)
   | .cell b t=>do loadVar t (← asAddr (a.tmps.getD b undef)):Sem Value)).run P w = .ok us.toArray w∧LR φ vs us:=by
  intro vs hvs
  obtain ⟨us,h1,h2⟩:=aFt hc he hr hvs
  refine ⟨us,?_,h2⟩
  rw[Array.mapM_eq_mapM_toList]
  rw[show ∀ m:Sem (List Value),List.toArray <$> m=(m >>= fun l=>Pure.pure l.toArray) from fun _=>rfl]
  simp only[Sem.run_bind,h1,Result.andThen_ok,Sem.run_pure]
 have hres:results fn a.tmps=(fn.results.mapM (fun r=>(match r with
   | .tmp t=>Pure.pure (a.tmps.getD t undef)
   | .cell b t=>do loadVar t (← asAddr (a.tmps.getD b undef)):Sem Value)) >>= fun vs=>Pure.pure (if h:vs.size=1 then vs[0] else .tuple vs)):=rfl
 unfold resV at hv
 split at hv
 ·rename_i x
  obtain ⟨us,h1,h2⟩:=key [v] (by simp[hv])
  obtain ⟨u,us,rfl,h3,h4⟩:=h2.head
  have hus:us=[]:=by have:=h4.1; simpa using this.symm
  subst hus
  refine ⟨u,?_,h3⟩
  rw[hres]
  simp only[Sem.run_bind]
  rw[h1]
  simp
 ·rename_i hne
  obtain ⟨vs,h0,h5⟩:=Option.map_eq_some_iff.1 hv
  obtain ⟨us,h1,h2⟩:=key vs h0
  subst h5
  have hlen:vs.length=xs.length:=by
   clear h1 h2 key hv hc hne
   induction xs generalizing vs with
   | nil=>simp at h0; subst h0; rfl
   | cons x xs ih =>
    rw[List.mapM_cons] at h0
    obtain ⟨v,h3,h0⟩:=Option.bind_eq_some_iff.1 h0
    obtain ⟨vs,h4,h0⟩:=Option.bind_eq_some_iff.1 h0
    cases h0
    simp[ih _ h4]
  refine ⟨.tuple us.toArray,?_,VR.aGK h2⟩
  rw[hres]
  simp only[Sem.run_bind]
  rw[h1]
  have:us.length≠1:=by
   intro hh
   have h6:=h2.1
   rw[hh,hlen] at h6
   obtain ⟨x,rfl⟩:=List.length_eq_one_iff.1 h6
   exact hne x rfl
  simp[this]
theorem aK6 {n:Nat} (l:List Nat) (h:Hp):(l.foldl (fun h t=>match at? (e t) with
  | some (b,_)=>if n≤b then h.put b none else h
  | none=>h) h).next=h.next∧∀ b o,(l.foldl (fun h t=>match at? (e t) with
  | some (b,_)=>if n≤b then h.put b none else h
  | none=>h) h).get b=some o→h.get b=some o:=by
 induction l generalizing h with
 | nil=>exact ⟨rfl,fun b o hb=>hb⟩
 | cons t l ih =>
  simp only[List.foldl_cons]
  have h1:=ih (match at? (e t) with
   | some (b,_)=>if n≤b then h.put b none else h
   | none=>h)
  refine ⟨h1.1.trans ?_,fun b o hb=>?_⟩
  ·split
   ·split<;>rfl
   ·rfl
  ·have h2:=h1.2 b o hb
   split at h2
   ·split at h2
    ·simp only[Hp.put] at h2
     split at h2
     ·cases h2
     ·exact h2
    ·exact h2
   ·exact h2
theorem aIh {n:Nat} {l:Option (List Nat)}:(aCZ n e h l).next=h.next∧∀ b o,(aCZ n e h l).get b=some o→h.get b=some o:=by
 cases l with
 | none =>
  refine ⟨rfl,fun b o hb=>?_⟩
  simp only[aCZ,Hp.only] at hb
  split at hb
  ·exact hb
  ·cases hb
 | some l=>exact aK6 l h
theorem aKp {args args':List Value} (n:Nat) (hl:LR φ args args'):ER φ (aBW args) { tmps:=args'.toArray++Array.replicate n undef,defers:=[] }:=by
 intro t
 simp only[aBW,Act.eval]
 by_cases ht:t<args.length
 ·have h1:=hl.2 t ht
  have ht':t<args'.length:=hl.1▸ht
  simpa[List.getD,Array.getElem?_append,ht,ht'] using h1
 ·have ht':¬ t<args'.length:=hl.1▸ht
  have h1:args[t]?=none:=List.getElem?_eq_none (by omega)
  have h2:((args'.toArray++Array.replicate n undef).getD t undef)=undef:=by
   simp only[Array.getD_eq_getD_getElem?,Array.getElem?_append,List.size_toArray,ht',if_false,Array.getElem?_replicate]
   split<;>rfl
  rw[h1]
  have h3:(args'.toArray++Array.replicate n undef)[t]?.getD undef=undef:=by rw[← Array.getD_eq_getD_getElem?]; exact h2
  simp only[Option.getD_none]
  first
   | (rw[h2]; exact .undef _)
   | (rw[h3]; exact .undef _)
theorem aRU {g:Hp} (hle:Le h h') (hn:g.next=h'.next) (hg:∀ b o,g.get b=some o→h'.get b=some o):Le h g :=
 ⟨hn▸hle.1,fun b hb hb0=>by
  cases hgb:g.get b with
  | none=>rfl
  | some o=>exact absurd (hg b o hgb) (by rw[hle.2 b hb hb0]; simp)⟩
theorem aJF {any:Nat→Array Oper→Option (Nat×List It)} (hany:∀ n,aIy P n (any n)) (hcl:∀ f,aV P f (cl f)) {f:Nat} {F:F} (hF:aD5 P any f=some (F.body,F.res)) (m:Nat):aV P f (aDt cl m F):=by
 intro args h v g hv
 unfold aD5 at hF
 split at hF
 case h_2=>cases hF
 rename_i fn hfn
 split at hF
 case h_2=>cases hF
 rename_i c hbody
 split at hF
 case isFalse=>cases hF
 rename_i hcal
 obtain ⟨cc,h1,hF⟩:=Option.bind_eq_some_iff.1 hF
 obtain ⟨rr,h2,hF⟩:=Option.map_eq_some_iff.1 hF
 simp only[Prod.mk.injEq] at hF
 obtain ⟨rfl,rfl⟩:=hF
 have main:∀ (x:Ex) (e':Env) (h':Hp),(x = .r∨x = .n)→aN cl m F.body (aBW args) h=some (x,e',h')→(resV e' h' F.res).map (fun v=>(v,aCZ h.next e' h' F.drop))=some (v,g) →
   callable P f=true∧Le h g∧∀ φ w args',LR φ args args'→HR φ h w→Calls P f args'.toArray w fun e w'=>∃ φ' u,e = .returned u∧Ext φ h w φ' g w'∧VR φ' v u:=by
  intro x e' h' hx hrun hres
  obtain ⟨v',h3,h4⟩:=Option.map_eq_some_iff.1 hres
  cases h4
  have hin:=aIh (n:=h.next) (e:=e') (h:=h') (l:=F.drop)
  have hle:=aDH hcl m _ _ _ _ hrun
  refine ⟨hcal,aRU hle hin.1 hin.2,fun φ w args' hl hr=>?_⟩
  refine calls_of_wp hfn hbody ?_
  refine (aMH hcl (hany _) m).1 c F.body (aBW args) e' h h' x _ w φ _ h1 hrun (aKp _ hl) hr (by simp; omega) fun φ' a' w' hext he hs hd=>?_
  obtain ⟨u,h5,h6⟩:=aGj h2 he hext.hr h3
  have:bodyPost P fn (fun e w'=>∃ φ' u,e = .returned u∧Ext φ h w φ' (aCZ h.next e' h' F.drop) w'∧VR φ' v u) .normal a' w' :=
   ⟨hd,u,h5,φ',u,rfl,hext.less (by rw[hin.1]; exact Nat.le_refl _) hin.2 hle,h6⟩
  rcases hx with rfl | rfl<;>exact this
 unfold aDt at hv
 split at hv
 ·rename_i hrun; exact main _ _ _ (.inl rfl) hrun hv
 ·rename_i hrun; exact main _ _ _ (.inr rfl) hrun hv
 ·cases hv
def aBG (P:Program) (any:Nat→Array Oper→Option (Nat×List It)) (T:Nat→Option Fn):Prop :=
 ∀ f x,T f=some x→match x with
  | .code F=>aD5 P any f=some (F.body,F.res)
  | .spec s=>aV P f s
theorem aHn {any:Nat→Array Oper→Option (Nat×List It)} (hany:∀ n,aIy P n (any n)) {T:Nat→Option Fn} (hT:aBG P any T) (n:Nat):∀ f,aV P f (aW T n f):=by
 induction n with
 | zero=>intro f args h v h' hv; simp[aW] at hv
 | succ n ih =>
  intro f args h v h' hv
  cases hf:T f with
  | none=>simp[aW,hf] at hv
  | some x =>
   cases x with
   | code F =>
    simp only[aW,hf] at hv
    exact aJF hany ih (hT f _ hf) n args h v h' hv
   | spec s =>
    simp only[aW,hf] at hv
    exact hT f _ hf args h v h' hv
end
def X.ts:X→List Nat
 | .t n=>[n]
 | _=>[]
def xts (l:List X):List Nat:=l.flatMap X.ts
def pts (l:List (Nat×Nat×X)):List Nat:=l.flatMap fun p=>p.2.2.ts
def ots:Option X→List Nat
 | some x=>x.ts
 | none=>[]
section
variable {e e':Env} {h:Hp} {id:Nat}
theorem X.congr {x:X} (hg:∀ t∈x.ts,e t=e' t):x.ev e=x.ev e':=by
 cases x with
 | t n=>exact hg n (by simp[X.ts])
 | c v=>rfl
 | f id=>rfl
theorem aAT {l:List X} (hg:∀ t∈xts l,e t=e' t):evs e l=evs e' l:=by
 refine List.map_congr_left fun x hx=>X.congr fun t ht=>hg t ?_
 exact List.mem_flatMap.2 ⟨x,hx,ht⟩
theorem aBD {l:List (Nat×Nat×X)} (hg:∀ t∈pts l,e t=e' t):evp e l=evp e' l:=by
 refine List.map_congr_left fun x hx=>?_
 rw[X.congr (x:=x.2.2) fun t ht=>hg t (List.mem_flatMap.2 ⟨x,hx,ht⟩)]
theorem aAD {o:Option X} (hg:∀ t∈ots o,e t=e' t):o.map (·.ev e)=o.map (·.ev e'):=by
 cases o with
 | none=>rfl
 | some x=>simp only[Option.map_some]; rw[X.congr (x:=x) hg]
def Op.ts:Op→List Nat
 | .mov x=>x.ts
 | .pick c a b=>c.ts++a.ts++b.ts
 | .new _=>[]
 | .box x=>x.ts
 | .build _ parts=>pts parts
 | .bsl _ _ parts=>pts parts
 | .ld x=>x.ts
 | .ldn _ x=>x.ts
 | .st a x=>a.ts++x.ts
 | .stn _ a x=>a.ts++x.ts
 | .nilc x=>x.ts
 | .bin _ x y=>x.ts++y.ts
 | .eqb _ x y=>x.ts++y.ts
 | .eqn _ _ x=>x.ts
 | .eqt _ _ x y=>x.ts++y.ts
 | .un _ x=>x.ts
 | .conv _ x=>x.ts
 | .b2s x=>x.ts
 | .s2b x=>x.ts
 | .ms x=>x.ts
 | .mkf _ caps=>xts caps
 | .mkm=>[]
 | .mkc _ x=>x.ts
 | .mks _ _ l c=>l.ts++c.ts
 | .sls x lo hi=>x.ts++ots lo++ots hi
 | .sl _ x lo hi mxx=>x.ts++ots lo++ots hi++ots mxx
 | .sla _ _ x lo hi mxx=>x.ts++ots lo++ots hi++ots mxx
 | .fa _ x=>x.ts
 | .fld _ x=>x.ts
 | .fldn _ _ x=>x.ts
 | .ia _ x i=>x.ts++i.ts
 | .iaa _ _ x i=>x.ts++i.ts
 | .ixs x i=>x.ts++i.ts
 | .ixa _ x i=>x.ts++i.ts
 | .ixan _ _ x i=>x.ts++i.ts
 | .look _ _ _ m k=>m.ts++k.ts
 | .mset _ m k v=>m.ts++k.ts++v.ts
 | .ext x _=>x.ts
 | .len _ x=>x.ts
 | .lenk _=>[]
 | .app _ _ x y=>x.ts++y.ts
 | .cpy _ x y=>x.ts++y.ts
 | .del _ m k=>m.ts++k.ts
 | .clr _ x=>x.ts
 | .clrm x=>x.ts
 | .mx x y=>x.ts++y.ts
 | .mn x y=>x.ts++y.ts
 | .call _ args=>xts args
 | .bC f args=>f.ts++xts args
theorem aG4 {op:Op} (hg:∀ t∈op.ts,e t=e' t):opA id e op=opA id e' op:=by
 cases op with
 | mov x =>
  have hx:=X.congr (e:=e) (e':=e') (x:=x) fun t ht=>hg t (by simp[Op.ts,ht])
  simp only[opA,hx]
 | pick c a b =>
  have hc:=X.congr (e:=e) (e':=e') (x:=c) fun t ht=>hg t (by simp[Op.ts,ht])
  have ha:=X.congr (e:=e) (e':=e') (x:=a) fun t ht=>hg t (by simp[Op.ts,ht])
  have hb:=X.congr (e:=e) (e':=e') (x:=b) fun t ht=>hg t (by simp[Op.ts,ht])
  simp only[opA,hc,ha,hb]
 | new zero =>
  simp only[opA]
 | box x =>
  have hx:=X.congr (e:=e) (e':=e') (x:=x) fun t ht=>hg t (by simp[Op.ts,ht])
  simp only[opA,hx]
 | build zero parts =>
  have hparts:=aBD (e:=e) (e':=e') (l:=parts) fun t ht=>hg t (by simp[Op.ts,ht])
  simp only[opA,hparts]
 | bsl len zero parts =>
  have hparts:=aBD (e:=e) (e':=e') (l:=parts) fun t ht=>hg t (by simp[Op.ts,ht])
  simp only[opA,hparts]
 | ld x =>
  have hx:=X.congr (e:=e) (e':=e') (x:=x) fun t ht=>hg t (by simp[Op.ts,ht])
  simp only[opA,hx]
 | ldn n x =>
  have hx:=X.congr (e:=e) (e':=e') (x:=x) fun t ht=>hg t (by simp[Op.ts,ht])
  simp only[opA,hx]
 | st a x =>
  have ha:=X.congr (e:=e) (e':=e') (x:=a) fun t ht=>hg t (by simp[Op.ts,ht])
  have hx:=X.congr (e:=e) (e':=e') (x:=x) fun t ht=>hg t (by simp[Op.ts,ht])
  simp only[opA,ha,hx]
 | stn n a x =>
  have ha:=X.congr (e:=e) (e':=e') (x:=a) fun t ht=>hg t (by simp[Op.ts,ht])
  have hx:=X.congr (e:=e) (e':=e') (x:=x) fun t ht=>hg t (by simp[Op.ts,ht])
  simp only[opA,ha,hx]
 | nilc x =>
  have hx:=X.congr (e:=e) (e':=e') (x:=x) fun t ht=>hg t (by simp[Op.ts,ht])
  simp only[opA,hx]
 | bin op x y =>
  have hx:=X.congr (e:=e) (e':=e') (x:=x) fun t ht=>hg t (by simp[Op.ts,ht])
  have hy:=X.congr (e:=e) (e':=e') (x:=y) fun t ht=>hg t (by simp[Op.ts,ht])
  simp only[opA,hx,hy]
 | eqb neg x y =>
  have hx:=X.congr (e:=e) (e':=e') (x:=x) fun t ht=>hg t (by simp[Op.ts,ht])
  have hy:=X.congr (e:=e) (e':=e') (x:=y) fun t ht=>hg t (by simp[Op.ts,ht])
  simp only[opA,hx,hy]
 | eqn kd neg x =>
  have hx:=X.congr (e:=e) (e':=e') (x:=x) fun t ht=>hg t (by simp[Op.ts,ht])
  simp only[opA,hx]
 | eqt neg ty x y =>
  have hx:=X.congr (e:=e) (e':=e') (x:=x) fun t ht=>hg t (by simp[Op.ts,ht])
  have hy:=X.congr (e:=e) (e':=e') (x:=y) fun t ht=>hg t (by simp[Op.ts,ht])
  simp only[opA,hx,hy]
 | un op x =>
  have hx:=X.congr (e:=e) (e':=e') (x:=x) fun t ht=>hg t (by simp[Op.ts,ht])
  simp only[opA,hx]
 | conv k x =>
  have hx:=X.congr (e:=e) (e':=e') (x:=x) fun t ht=>hg t (by simp[Op.ts,ht])
  simp only[opA,hx]
 | b2s x =>
  have hx:=X.congr (e:=e) (e':=e') (x:=x) fun t ht=>hg t (by simp[Op.ts,ht])
  simp only[opA,hx]
 | s2b x =>
  have hx:=X.congr (e:=e) (e':=e') (x:=x) fun t ht=>hg t (by simp[Op.ts,ht])
  simp only[opA,hx]
 | ms x =>
  have hx:=X.congr (e:=e) (e':=e') (x:=x) fun t ht=>hg t (by simp[Op.ts,ht])
  simp only[opA,hx]
 | mkf id caps =>
  have hcaps:=aAT (e:=e) (e':=e') (l:=caps) fun t ht=>hg t (by simp[Op.ts,ht])
  simp only[opA,hcaps]
 | mkm =>
  simp only[opA]
 | mkc bytes x =>
  have hx:=X.congr (e:=e) (e':=e') (x:=x) fun t ht=>hg t (by simp[Op.ts,ht])
  simp only[opA,hx]
 | mks zero bytes l c =>
  have hl:=X.congr (e:=e) (e':=e') (x:=l) fun t ht=>hg t (by simp[Op.ts,ht])
  have hc:=X.congr (e:=e) (e':=e') (x:=c) fun t ht=>hg t (by simp[Op.ts,ht])
  simp only[opA,hl,hc]
 | sls x lo hi =>
  have hx:=X.congr (e:=e) (e':=e') (x:=x) fun t ht=>hg t (by simp[Op.ts,ht])
  have hlo:=aAD (e:=e) (e':=e') (o:=lo) fun t ht=>hg t (by simp[Op.ts,ht])
  have hhi:=aAD (e:=e) (e':=e') (o:=hi) fun t ht=>hg t (by simp[Op.ts,ht])
  simp only[opA,hx,hlo,hhi]
 | sl sz x lo hi mxx =>
  have hx:=X.congr (e:=e) (e':=e') (x:=x) fun t ht=>hg t (by simp[Op.ts,ht])
  have hlo:=aAD (e:=e) (e':=e') (o:=lo) fun t ht=>hg t (by simp[Op.ts,ht])
  have hhi:=aAD (e:=e) (e':=e') (o:=hi) fun t ht=>hg t (by simp[Op.ts,ht])
  have hmxx:=aAD (e:=e) (e':=e') (o:=mxx) fun t ht=>hg t (by simp[Op.ts,ht])
  simp only[opA,hx,hlo,hhi,hmxx]
 | sla n sz x lo hi mxx =>
  have hx:=X.congr (e:=e) (e':=e') (x:=x) fun t ht=>hg t (by simp[Op.ts,ht])
  have hlo:=aAD (e:=e) (e':=e') (o:=lo) fun t ht=>hg t (by simp[Op.ts,ht])
  have hhi:=aAD (e:=e) (e':=e') (o:=hi) fun t ht=>hg t (by simp[Op.ts,ht])
  have hmxx:=aAD (e:=e) (e':=e') (o:=mxx) fun t ht=>hg t (by simp[Op.ts,ht])
  simp only[opA,hx,hlo,hhi,hmxx]
 | fa off x =>
  have hx:=X.congr (e:=e) (e':=e') (x:=x) fun t ht=>hg t (by simp[Op.ts,ht])
  simp only[opA,hx]
 | fld off x =>
  have hx:=X.congr (e:=e) (e':=e') (x:=x) fun t ht=>hg t (by simp[Op.ts,ht])
  simp only[opA,hx]
 | fldn off n x =>
  have hx:=X.congr (e:=e) (e':=e') (x:=x) fun t ht=>hg t (by simp[Op.ts,ht])
  simp only[opA,hx]
 | ia sz x i =>
  have hx:=X.congr (e:=e) (e':=e') (x:=x) fun t ht=>hg t (by simp[Op.ts,ht])
  have hi:=X.congr (e:=e) (e':=e') (x:=i) fun t ht=>hg t (by simp[Op.ts,ht])
  simp only[opA,hx,hi]
 | iaa n sz x i =>
  have hx:=X.congr (e:=e) (e':=e') (x:=x) fun t ht=>hg t (by simp[Op.ts,ht])
  have hi:=X.congr (e:=e) (e':=e') (x:=i) fun t ht=>hg t (by simp[Op.ts,ht])
  simp only[opA,hx,hi]
 | ixs x i =>
  have hx:=X.congr (e:=e) (e':=e') (x:=x) fun t ht=>hg t (by simp[Op.ts,ht])
  have hi:=X.congr (e:=e) (e':=e') (x:=i) fun t ht=>hg t (by simp[Op.ts,ht])
  simp only[opA,hx,hi]
 | ixa n x i =>
  have hx:=X.congr (e:=e) (e':=e') (x:=x) fun t ht=>hg t (by simp[Op.ts,ht])
  have hi:=X.congr (e:=e) (e':=e') (x:=i) fun t ht=>hg t (by simp[Op.ts,ht])
  simp only[opA,hx,hi]
 | ixan n sz x i =>
  have hx:=X.congr (e:=e) (e':=e') (x:=x) fun t ht=>hg t (by simp[Op.ts,ht])
  have hi:=X.congr (e:=e) (e':=e') (x:=i) fun t ht=>hg t (by simp[Op.ts,ht])
  simp only[opA,hx,hi]
 | look ty zero ok m k =>
  have hm:=X.congr (e:=e) (e':=e') (x:=m) fun t ht=>hg t (by simp[Op.ts,ht])
  have hk:=X.congr (e:=e) (e':=e') (x:=k) fun t ht=>hg t (by simp[Op.ts,ht])
  simp only[opA,hm,hk]
 | mset ty m k v =>
  have hm:=X.congr (e:=e) (e':=e') (x:=m) fun t ht=>hg t (by simp[Op.ts,ht])
  have hk:=X.congr (e:=e) (e':=e') (x:=k) fun t ht=>hg t (by simp[Op.ts,ht])
  have hv:=X.congr (e:=e) (e':=e') (x:=v) fun t ht=>hg t (by simp[Op.ts,ht])
  simp only[opA,hm,hk,hv]
 | ext x i =>
  have hx:=X.congr (e:=e) (e':=e') (x:=x) fun t ht=>hg t (by simp[Op.ts,ht])
  simp only[opA,hx]
 | len kd x =>
  have hx:=X.congr (e:=e) (e':=e') (x:=x) fun t ht=>hg t (by simp[Op.ts,ht])
  simp only[opA,hx]
 | lenk n =>
  simp only[opA]
 | app sz bytes x y =>
  have hx:=X.congr (e:=e) (e':=e') (x:=x) fun t ht=>hg t (by simp[Op.ts,ht])
  have hy:=X.congr (e:=e) (e':=e') (x:=y) fun t ht=>hg t (by simp[Op.ts,ht])
  simp only[opA,hx,hy]
 | cpy sz x y =>
  have hx:=X.congr (e:=e) (e':=e') (x:=x) fun t ht=>hg t (by simp[Op.ts,ht])
  have hy:=X.congr (e:=e) (e':=e') (x:=y) fun t ht=>hg t (by simp[Op.ts,ht])
  simp only[opA,hx,hy]
 | del ty m k =>
  have hm:=X.congr (e:=e) (e':=e') (x:=m) fun t ht=>hg t (by simp[Op.ts,ht])
  have hk:=X.congr (e:=e) (e':=e') (x:=k) fun t ht=>hg t (by simp[Op.ts,ht])
  simp only[opA,hm,hk]
 | clr zero x =>
  have hx:=X.congr (e:=e) (e':=e') (x:=x) fun t ht=>hg t (by simp[Op.ts,ht])
  simp only[opA,hx]
 | clrm x =>
  have hx:=X.congr (e:=e) (e':=e') (x:=x) fun t ht=>hg t (by simp[Op.ts,ht])
  simp only[opA,hx]
 | mx x y =>
  have hx:=X.congr (e:=e) (e':=e') (x:=x) fun t ht=>hg t (by simp[Op.ts,ht])
  have hy:=X.congr (e:=e) (e':=e') (x:=y) fun t ht=>hg t (by simp[Op.ts,ht])
  simp only[opA,hx,hy]
 | mn x y =>
  have hx:=X.congr (e:=e) (e':=e') (x:=x) fun t ht=>hg t (by simp[Op.ts,ht])
  have hy:=X.congr (e:=e) (e':=e') (x:=y) fun t ht=>hg t (by simp[Op.ts,ht])
  simp only[opA,hx,hy]
 | call f args =>
  have hargs:=aAT (e:=e) (e':=e') (l:=args) fun t ht=>hg t (by simp[Op.ts,ht])
  simp only[opA,hargs]
 | bC f args =>
  have hf:=X.congr (e:=e) (e':=e') (x:=f) fun t ht=>hg t (by simp[Op.ts,ht])
  have hargs:=aAT (e:=e) (e':=e') (l:=args) fun t ht=>hg t (by simp[Op.ts,ht])
  simp only[opA,hf,hargs]
theorem aAn {op:Op} (hg:∀ t∈op.ts,e t=e' t):opV e h op=opV e' h op:=by
 cases op with
 | mov x =>
  have hx:=X.congr (e:=e) (e':=e') (x:=x) fun t ht=>hg t (by simp[Op.ts,ht])
  simp only[opV,opA,hx]
 | pick c a b =>
  have hc:=X.congr (e:=e) (e':=e') (x:=c) fun t ht=>hg t (by simp[Op.ts,ht])
  have ha:=X.congr (e:=e) (e':=e') (x:=a) fun t ht=>hg t (by simp[Op.ts,ht])
  have hb:=X.congr (e:=e) (e':=e') (x:=b) fun t ht=>hg t (by simp[Op.ts,ht])
  simp only[opV,opA,hc,ha,hb]
 | new zero =>
  simp only[opV,opA]
 | box x =>
  have hx:=X.congr (e:=e) (e':=e') (x:=x) fun t ht=>hg t (by simp[Op.ts,ht])
  simp only[opV,opA,hx]
 | build zero parts =>
  have hparts:=aBD (e:=e) (e':=e') (l:=parts) fun t ht=>hg t (by simp[Op.ts,ht])
  simp only[opV,opA,hparts]
 | bsl len zero parts =>
  have hparts:=aBD (e:=e) (e':=e') (l:=parts) fun t ht=>hg t (by simp[Op.ts,ht])
  simp only[opV,opA,hparts]
 | ld x =>
  have hx:=X.congr (e:=e) (e':=e') (x:=x) fun t ht=>hg t (by simp[Op.ts,ht])
  simp only[opV,opA,hx]
 | ldn n x =>
  have hx:=X.congr (e:=e) (e':=e') (x:=x) fun t ht=>hg t (by simp[Op.ts,ht])
  simp only[opV,opA,hx]
 | st a x =>
  have ha:=X.congr (e:=e) (e':=e') (x:=a) fun t ht=>hg t (by simp[Op.ts,ht])
  have hx:=X.congr (e:=e) (e':=e') (x:=x) fun t ht=>hg t (by simp[Op.ts,ht])
  simp only[opV,opA,ha,hx]
 | stn n a x =>
  have ha:=X.congr (e:=e) (e':=e') (x:=a) fun t ht=>hg t (by simp[Op.ts,ht])
  have hx:=X.congr (e:=e) (e':=e') (x:=x) fun t ht=>hg t (by simp[Op.ts,ht])
  simp only[opV,opA,ha,hx]
 | nilc x =>
  have hx:=X.congr (e:=e) (e':=e') (x:=x) fun t ht=>hg t (by simp[Op.ts,ht])
  simp only[opV,opA,hx]
 | bin op x y =>
  have hx:=X.congr (e:=e) (e':=e') (x:=x) fun t ht=>hg t (by simp[Op.ts,ht])
  have hy:=X.congr (e:=e) (e':=e') (x:=y) fun t ht=>hg t (by simp[Op.ts,ht])
  simp only[opV,opA,hx,hy]
 | eqb neg x y =>
  have hx:=X.congr (e:=e) (e':=e') (x:=x) fun t ht=>hg t (by simp[Op.ts,ht])
  have hy:=X.congr (e:=e) (e':=e') (x:=y) fun t ht=>hg t (by simp[Op.ts,ht])
  simp only[opV,opA,hx,hy]
 | eqn kd neg x =>
  have hx:=X.congr (e:=e) (e':=e') (x:=x) fun t ht=>hg t (by simp[Op.ts,ht])
  simp only[opV,opA,hx]
 | eqt neg ty x y =>
  have hx:=X.congr (e:=e) (e':=e') (x:=x) fun t ht=>hg t (by simp[Op.ts,ht])
  have hy:=X.congr (e:=e) (e':=e') (x:=y) fun t ht=>hg t (by simp[Op.ts,ht])
  simp only[opV,opA,hx,hy]
 | un op x =>
  have hx:=X.congr (e:=e) (e':=e') (x:=x) fun t ht=>hg t (by simp[Op.ts,ht])
  simp only[opV,opA,hx]
 | conv k x =>
  have hx:=X.congr (e:=e) (e':=e') (x:=x) fun t ht=>hg t (by simp[Op.ts,ht])
  simp only[opV,opA,hx]
 | b2s x =>
  have hx:=X.congr (e:=e) (e':=e') (x:=x) fun t ht=>hg t (by simp[Op.ts,ht])
  simp only[opV,opA,hx]
 | s2b x =>
  have hx:=X.congr (e:=e) (e':=e') (x:=x) fun t ht=>hg t (by simp[Op.ts,ht])
  simp only[opV,opA,hx]
 | ms x =>
  have hx:=X.congr (e:=e) (e':=e') (x:=x) fun t ht=>hg t (by simp[Op.ts,ht])
  simp only[opV,opA,hx]
 | mkf id caps =>
  have hcaps:=aAT (e:=e) (e':=e') (l:=caps) fun t ht=>hg t (by simp[Op.ts,ht])
  simp only[opV,opA,hcaps]
 | mkm =>
  simp only[opV,opA]
 | mkc bytes x =>
  have hx:=X.congr (e:=e) (e':=e') (x:=x) fun t ht=>hg t (by simp[Op.ts,ht])
  simp only[opV,opA,hx]
 | mks zero bytes l c =>
  have hl:=X.congr (e:=e) (e':=e') (x:=l) fun t ht=>hg t (by simp[Op.ts,ht])
  have hc:=X.congr (e:=e) (e':=e') (x:=c) fun t ht=>hg t (by simp[Op.ts,ht])
  simp only[opV,opA,hl,hc]
 | sls x lo hi =>
  have hx:=X.congr (e:=e) (e':=e') (x:=x) fun t ht=>hg t (by simp[Op.ts,ht])
  have hlo:=aAD (e:=e) (e':=e') (o:=lo) fun t ht=>hg t (by simp[Op.ts,ht])
  have hhi:=aAD (e:=e) (e':=e') (o:=hi) fun t ht=>hg t (by simp[Op.ts,ht])
  simp only[opV,opA,hx,hlo,hhi]
 | sl sz x lo hi mxx =>
  have hx:=X.congr (e:=e) (e':=e') (x:=x) fun t ht=>hg t (by simp[Op.ts,ht])
  have hlo:=aAD (e:=e) (e':=e') (o:=lo) fun t ht=>hg t (by simp[Op.ts,ht])
  have hhi:=aAD (e:=e) (e':=e') (o:=hi) fun t ht=>hg t (by simp[Op.ts,ht])
  have hmxx:=aAD (e:=e) (e':=e') (o:=mxx) fun t ht=>hg t (by simp[Op.ts,ht])
  simp only[opV,opA,hx,hlo,hhi,hmxx]
 | sla n sz x lo hi mxx =>
  have hx:=X.congr (e:=e) (e':=e') (x:=x) fun t ht=>hg t (by simp[Op.ts,ht])
  have hlo:=aAD (e:=e) (e':=e') (o:=lo) fun t ht=>hg t (by simp[Op.ts,ht])
  have hhi:=aAD (e:=e) (e':=e') (o:=hi) fun t ht=>hg t (by simp[Op.ts,ht])
  have hmxx:=aAD (e:=e) (e':=e') (o:=mxx) fun t ht=>hg t (by simp[Op.ts,ht])
  simp only[opV,opA,hx,hlo,hhi,hmxx]
 | fa off x =>
  have hx:=X.congr (e:=e) (e':=e') (x:=x) fun t ht=>hg t (by simp[Op.ts,ht])
  simp only[opV,opA,hx]
 | fld off x =>
  have hx:=X.congr (e:=e) (e':=e') (x:=x) fun t ht=>hg t (by simp[Op.ts,ht])
  simp only[opV,opA,hx]
 | fldn off n x =>
  have hx:=X.congr (e:=e) (e':=e') (x:=x) fun t ht=>hg t (by simp[Op.ts,ht])
  simp only[opV,opA,hx]
 | ia sz x i =>
  have hx:=X.congr (e:=e) (e':=e') (x:=x) fun t ht=>hg t (by simp[Op.ts,ht])
  have hi:=X.congr (e:=e) (e':=e') (x:=i) fun t ht=>hg t (by simp[Op.ts,ht])
  simp only[opV,opA,hx,hi]
 | iaa n sz x i =>
  have hx:=X.congr (e:=e) (e':=e') (x:=x) fun t ht=>hg t (by simp[Op.ts,ht])
  have hi:=X.congr (e:=e) (e':=e') (x:=i) fun t ht=>hg t (by simp[Op.ts,ht])
  simp only[opV,opA,hx,hi]
 | ixs x i =>
  have hx:=X.congr (e:=e) (e':=e') (x:=x) fun t ht=>hg t (by simp[Op.ts,ht])
  have hi:=X.congr (e:=e) (e':=e') (x:=i) fun t ht=>hg t (by simp[Op.ts,ht])
  simp only[opV,opA,hx,hi]
 | ixa n x i =>
  have hx:=X.congr (e:=e) (e':=e') (x:=x) fun t ht=>hg t (by simp[Op.ts,ht])
  have hi:=X.congr (e:=e) (e':=e') (x:=i) fun t ht=>hg t (by simp[Op.ts,ht])
  simp only[opV,opA,hx,hi]
 | ixan n sz x i =>
  have hx:=X.congr (e:=e) (e':=e') (x:=x) fun t ht=>hg t (by simp[Op.ts,ht])
  have hi:=X.congr (e:=e) (e':=e') (x:=i) fun t ht=>hg t (by simp[Op.ts,ht])
  simp only[opV,opA,hx,hi]
 | look ty zero ok m k =>
  have hm:=X.congr (e:=e) (e':=e') (x:=m) fun t ht=>hg t (by simp[Op.ts,ht])
  have hk:=X.congr (e:=e) (e':=e') (x:=k) fun t ht=>hg t (by simp[Op.ts,ht])
  simp only[opV,opA,hm,hk]
 | mset ty m k v =>
  have hm:=X.congr (e:=e) (e':=e') (x:=m) fun t ht=>hg t (by simp[Op.ts,ht])
  have hk:=X.congr (e:=e) (e':=e') (x:=k) fun t ht=>hg t (by simp[Op.ts,ht])
  have hv:=X.congr (e:=e) (e':=e') (x:=v) fun t ht=>hg t (by simp[Op.ts,ht])
  simp only[opV,opA,hm,hk,hv]
 | ext x i =>
  have hx:=X.congr (e:=e) (e':=e') (x:=x) fun t ht=>hg t (by simp[Op.ts,ht])
  simp only[opV,opA,hx]
 | len kd x =>
  have hx:=X.congr (e:=e) (e':=e') (x:=x) fun t ht=>hg t (by simp[Op.ts,ht])
  simp only[opV,opA,hx]
 | lenk n =>
  simp only[opV,opA]
 | app sz bytes x y =>
  have hx:=X.congr (e:=e) (e':=e') (x:=x) fun t ht=>hg t (by simp[Op.ts,ht])
  have hy:=X.congr (e:=e) (e':=e') (x:=y) fun t ht=>hg t (by simp[Op.ts,ht])
  simp only[opV,opA,hx,hy]
 | cpy sz x y =>
  have hx:=X.congr (e:=e) (e':=e') (x:=x) fun t ht=>hg t (by simp[Op.ts,ht])
  have hy:=X.congr (e:=e) (e':=e') (x:=y) fun t ht=>hg t (by simp[Op.ts,ht])
  simp only[opV,opA,hx,hy]
 | del ty m k =>
  have hm:=X.congr (e:=e) (e':=e') (x:=m) fun t ht=>hg t (by simp[Op.ts,ht])
  have hk:=X.congr (e:=e) (e':=e') (x:=k) fun t ht=>hg t (by simp[Op.ts,ht])
  simp only[opV,opA,hm,hk]
 | clr zero x =>
  have hx:=X.congr (e:=e) (e':=e') (x:=x) fun t ht=>hg t (by simp[Op.ts,ht])
  simp only[opV,opA,hx]
 | clrm x =>
  have hx:=X.congr (e:=e) (e':=e') (x:=x) fun t ht=>hg t (by simp[Op.ts,ht])
  simp only[opV,opA,hx]
 | mx x y =>
  have hx:=X.congr (e:=e) (e':=e') (x:=x) fun t ht=>hg t (by simp[Op.ts,ht])
  have hy:=X.congr (e:=e) (e':=e') (x:=y) fun t ht=>hg t (by simp[Op.ts,ht])
  simp only[opV,opA,hx,hy]
 | mn x y =>
  have hx:=X.congr (e:=e) (e':=e') (x:=x) fun t ht=>hg t (by simp[Op.ts,ht])
  have hy:=X.congr (e:=e) (e':=e') (x:=y) fun t ht=>hg t (by simp[Op.ts,ht])
  simp only[opV,opA,hx,hy]
 | call f args =>
  have hargs:=aAT (e:=e) (e':=e') (l:=args) fun t ht=>hg t (by simp[Op.ts,ht])
  simp only[opV,opA,hargs]
 | bC f args =>
  have hf:=X.congr (e:=e) (e':=e') (x:=f) fun t ht=>hg t (by simp[Op.ts,ht])
  have hargs:=aAT (e:=e) (e':=e') (l:=args) fun t ht=>hg t (by simp[Op.ts,ht])
  simp only[opV,opA,hf,hargs]
def gts:Option (Nat×Bool)→List Nat
 | some (t,_)=>[t]
 | none=>[]
theorem aCO {g:Option (Nat×Bool)} (hg:∀ t∈gts g,e t=e' t):gd e g=gd e' g:=by
 cases g with
 | none=>rfl
 | some p =>
  obtain ⟨t,b⟩:=p
  simp only[gd]
  rw[hg t (by simp[gts])]
theorem aGr {cl:Nat→Sp} {op:Op} (hg:∀ t∈op.ts,e t=e' t):act cl e h op=act cl e' h op:=by
 unfold act
 split
 ·rw[aAT (e:=e) (e':=e') fun t ht=>hg t (by simp[Op.ts,ht])]
 ·rename_i x xs
  rw[aAT (e:=e) (e':=e') (l:=xs) fun t ht=>hg t (by simp[Op.ts,ht]),X.congr (e:=e) (e':=e') (x:=x) fun t ht=>hg t (by simp[Op.ts,ht])]
 ·exact aAn hg
def aIj:Op→Bool
 | .ld x | .ldn _ x | .b2s x | .look _ _ _ x _ | .len _ x | .ms x=>match x with
  | .c v=>ground v
  | _=>true
 | _=>false
theorem aEy {φ:Phi} {x:X} (ht:(match x with
  | .c v=>ground v
  | _=>true)=true) (he:∀ t,∃ u,VR φ (e t) u):∃ u,VR φ (x.ev e) u:=by
 cases x with
 | t n=>exact he n
 | c v=>exact ⟨v,VR.ground ht⟩
 | f id=>exact ⟨_,VR.aK9 (.nil _)⟩
theorem aFo {φ:Phi} {op:Op} {h':Hp} {v:Value} (h3:isR op=true) (ht:aIj op=true) (he:∀ t,∃ u,VR φ (e t) u) (hv:opV e h op=some (v,h')) :
  ∀ g:Hp,(∀ b o,(φ b).isSome=true→h.get b=some o→g.get b=some o)→opV e g op=some (v,g):=by
 intro g hi
 have cells:∀ b c,(φ b).isSome=true→h.cells b=some c→g.cells b=some c:=fun b c hb hc=>by
  obtain ⟨ro,hg⟩:=aB2 hc
  simp[Hp.cells,hi b _ hb hg]
 have hrd:∀ b o x,(φ b).isSome=true→h.rd b o=some x→g.rd b o=some x:=fun b o x hb hx=>by
  obtain ⟨c,hc,hx⟩:=Option.bind_eq_some_iff.1 hx
  exact Option.bind_eq_some_iff.2 ⟨c,cells b c hb hc,hx⟩
 have hrdn:∀ b o n x,(φ b).isSome=true→h.rdn b o n=some x→g.rdn b o n=some x:=fun b o n x hb hx=>by
  obtain ⟨c,hc,hx⟩:=Option.bind_eq_some_iff.1 hx
  exact Option.bind_eq_some_iff.2 ⟨c,cells b c hb hc,hx⟩
 have hat:∀ (x:X) p,(∃ u,VR φ (x.ev e) u)→at? (x.ev e)=some p→(φ p.1).isSome=true:=fun x p hx hp=>by
  obtain ⟨u,hu⟩:=hx
  obtain ⟨b',n,_,hφ,_⟩:=hu.at hp
  rw[hφ]
  rfl
 cases op<;>simp[isR] at h3<;>simp only[aIj] at ht<;>simp only[opV] at hv ⊢
 case ld x =>
  obtain ⟨p,hp,hv⟩:=Option.bind_eq_some_iff.1 hv
  obtain ⟨u,hu,hh⟩:=Option.map_eq_some_iff.1 hv
  cases hh
  rw[hp]
  simp[hrd _ _ _ (hat x p (aEy ht he) hp) hu]
 case ldn n x =>
  obtain ⟨p,hp,hv⟩:=Option.bind_eq_some_iff.1 hv
  obtain ⟨u,hu,hh⟩:=Option.map_eq_some_iff.1 hv
  cases hh
  rw[hp]
  simp[hrdn _ _ _ _ (hat x p (aEy ht he) hp) hu]
 case b2s x =>
  obtain ⟨u,hu⟩:=aEy ht he
  generalize x.ev e=cv at *
  cases cv<;>first | (cases hv; done) | skip
  rename_i p n c
  cases p with
  | none=>exact (aY hv).2 g
  | some p =>
   have hb:(φ p.block).isSome=true:=by cases hu<;>simp[*]
   obtain ⟨l,hl,hh⟩:=Option.map_eq_some_iff.1 hv
   cases hh
   obtain ⟨cs,hcs,hm⟩:=Option.bind_eq_some_iff.1 hl
   refine Option.map_eq_some_iff.2 ⟨l,Option.bind_eq_some_iff.2 ⟨cs,?_,hm⟩,rfl⟩
   split at hcs
   ·rename_i h0; rw[if_pos h0]; exact hcs
   ·rename_i h0; rw[if_neg h0]; exact hrdn _ _ _ _ hb hcs
 case look t z ok m k =>
  obtain ⟨u,hu⟩:=aEy ht he
  generalize m.ev e=mv at *
  cases mv<;>first | (cases hv; done) | skip
  rename_i p
  cases p with
  | none=>exact (bK hv).2 g
  | some r =>
   have hb:(φ r).isSome=true:=by cases hu; simp[*]
   cases hg:h.get r with
   | none=>simp[hg] at hv
   | some ob =>
    cases ob<;>simp only[hg] at hv<;>first | (cases hv; done) | skip
    rename_i es
    simp only[hi _ _ hb hg]; exact (bK hv).2 g
 case ms x =>
  obtain ⟨u,hu⟩:=aEy ht he
  generalize x.ev e=cv at *
  split at hv
  case h_2=>cases hv
  rename_i b o n c
  have hb:(φ b).isSome=true:=by cases hu; simp[*]
  split at hv
  case h_2=>cases hv
  rename_i hg
  simp only[hi _ _ hb hg]; exact (aY hv).2 g
 case len kd x =>
  obtain ⟨u,hu⟩:=aEy ht he
  generalize x.ev e=cv at *
  split at hv
  ·exact (aY hv).2 g
  ·exact (aY hv).2 g
  ·exact (aY hv).2 g
  ·rename_i r
   have hb:(φ r).isSome=true:=by cases hu; simp[*]
   split at hv
   case h_2=>cases hv
   rename_i hg
   simp only[hi _ _ hb hg]; exact (aY hv).2 g
  ·rename_i r
   have hb:(φ r).isSome=true:=by cases hu; simp[*]
   split at hv
   case h_2=>cases hv
   rename_i hg
   simp only[hi _ _ hb hg]; exact (aY hv).2 g
  ·cases hv
def O.ts (o:O):List Nat:=gts o.g++o.o.ts
end
def It.o:It→O
 | .op _ o | .al _ _ o | .re _ o=>o
def It.i:It→Nat
 | .op i _ | .al i _ _ | .re i _=>i
def It.bH:It→Bool
 | .re .. => true
 | _=>false
def It.w:It→Option Nat
 | .re .. => none
 | .op _ o | .al _ _ o=>o.d
def It.eff:It→Bool
 | .op _ o=>isE o.o
 | _=>false
def It.rdr:It→Bool
 | .op _ o=>isR o.o
 | _=>false
def It.alc:It→Option Nat
 | .al _ j _=>some j
 | _=>none
def It.mso:It→Option Nat
 | .op _ ⟨_,none,.ms (.t t)⟩=>some t
 | _=>none
def anc (b:Array Nat) (i k:Nat):Bool:=decide (i<k)&&(b.getD k 0).testBit i
def imp (a b:Bool):Bool := !a || b
theorem aAr {a b:Bool} (h:imp a b=true) (ha:a=true):b=true:=by simpa[imp,ha] using h
def aEP (b:Array Nat) (x y:It):Bool :=
 x.bH || y.bH ||
 (x.i != y.i && !anc b y.i x.i&&(match x.w with
  | some t=>y.w != some t&&imp (y.o.ts.contains t) (anc b x.i y.i)
  | none=>true)&&(match y.w with
  | some t=>imp (x.o.ts.contains t) (anc b x.i y.i && !x.rdr)
  | none=>true)&&imp (x.eff&&y.eff) (anc b x.i y.i)&&imp (x.alc.isSome&&y.eff) (anc b x.i y.i)&&imp (x.eff&&y.rdr&&y.mso.isNone) (anc b x.i y.i) &&
  (match x.alc with
  | some j=>y.alc != some j
  | none=>true))
def aBj (b:Array Nat):List It→Bool
 | []=>true
 | x::l=>l.all (aEP b x)&&aBj b l
def aGn (b:Array Nat):List It→List It→Bool
 | _,[]=>true
 | seen,x::l=>imp x.eff (seen.all fun y=>anc b y.i x.i || (l.takeWhile It.bH).any fun z=>z.i == y.i)&&aGn b (if x.rdr then x::seen else seen) l
def aGw (b:Array Nat) (t:Nat) (x z:It):Bool :=
 match z with
 | .al i _ ⟨some t',none,.bsl _ _ _⟩=>t' == t&&anc b i x.i
 | _=>false
def aOw (b:Array Nat):List It→List It→List It→Bool
 | _,_,[]=>true
 | rc,es,x::l=>(match x.mso with
  | some t=>(es.all fun y=>anc b y.i x.i) || rc.any (aGw b t x)
  | none=>true)&&aOw b (if x.eff then [] else x::rc) (if x.eff then x::es else es) l
def aCp (b:Array Nat) (k:Nat) (x:It):Bool :=
 (match x.alc with
 | some j=>decide (j<k)
 | none=>true) && !anc b x.i x.i&&imp x.rdr (aIj x.o.o)&&imp x.rdr (match x.w with
 | some t => !x.o.ts.contains t
 | none=>true)
def aFw (ops:Array Oper) (b:Array Nat):Bool :=
 (List.range ops.size).all fun k=>match ops[k]? with
  | some o=>(o.after.toList.all fun e=>imp (Region.binds .any e) (anc b e.on k)) &&
   (List.range ops.size).all fun i=>imp (anc b i k) (o.after.toList.any fun e=>Region.binds .any e&&(e.on == i || (anc b i e.on&&decide (e.on<k))))
  | none=>true
def aNi (ops:Array Oper) (b:Array Nat) (k:Nat) (l:List It):Bool :=
 aFw ops b&&aOw b [] [] l&&aBj b l&&aGn b [] l&&l.all (aCp b k)&&(List.range ops.size).all fun i=>l.any fun x => !x.bH&&x.i == i
def aCl (ops:Array Oper) (tab:List O):Nat→List (Nat×Bool)→Option (Nat×List It)
 | j,[]=>some (j,[])
 | j,(i,re)::l=>(tab[i]?).bind fun o =>
  if re then (if isR o.o&&o.d.isSome then (aCl ops tab j l).map fun r=>(r.1,.re i o::r.2) else none)
  else if isA o.o then (if (ops[i]?).any (aJy ·.op) then (aCl ops tab (j+1) l).map fun r=>(r.1,.al i j o::r.2) else none)
  else (aCl ops tab j l).map fun r=>(r.1,.op i o::r.2)
def Made (ops:Array Oper) (tab:List O) (x:It):Prop :=
 tab[x.i]?=some x.o∧match x with
  | .op _ o=>isA o.o=false
  | .al i _ o=>isA o.o=true∧∃ g,ops[i]?=some g∧aJy g.op=true
  | .re _ o=>isR o.o=true∧o.d.isSome=true
theorem made {ops:Array Oper} {tab:List O} (l:List (Nat×Bool)):∀ (j k:Nat) (its:List It),aCl ops tab j l=some (k,its)→∀ x∈its,Made ops tab x:=by
 induction l with
 | nil=>intro j k its h; simp[aCl] at h; obtain ⟨_,rfl⟩:=h; simp
 | cons p l ih =>
  intro j k its h
  obtain ⟨i,re⟩:=p
  simp only[aCl] at h
  obtain ⟨o,ho,h⟩:=Option.bind_eq_some_iff.1 h
  split at h
  ·split at h
   ·rename_i hre
    obtain ⟨⟨k',l'⟩,h1,h2⟩:=Option.map_eq_some_iff.1 h
    cases h2
    intro x hx
    rcases List.mem_cons.1 hx with rfl | hx
    ·simp only[Bool.and_eq_true] at hre; exact ⟨ho,hre⟩
    ·exact ih _ _ _ h1 x hx
   ·cases h
  ·split at h
   ·rename_i hA
    split at h
    ·rename_i hg
     obtain ⟨⟨k',l'⟩,h1,h2⟩:=Option.map_eq_some_iff.1 h
     cases h2
     intro x hx
     rcases List.mem_cons.1 hx with rfl | hx
     ·refine ⟨ho,hA,?_⟩
      cases hop:ops[i]? with
      | none=>simp[hop] at hg
      | some g=>exact ⟨g,rfl,by simpa[hop] using hg⟩
     ·exact ih _ _ _ h1 x hx
    ·cases h
   ·rename_i hA
    obtain ⟨⟨k',l'⟩,h1,h2⟩:=Option.map_eq_some_iff.1 h
    cases h2
    intro x hx
    rcases List.mem_cons.1 hx with rfl | hx
    ·exact ⟨ho,by simpa using hA⟩
    ·exact ih _ _ _ h1 x hx
def emit (b:Array Nat) (n:Nat) (done:List Nat) (want:Nat→Bool):List Nat :=
 (List.range n).filter fun i => !done.contains i&&(want i || (List.range n).any fun k=>want k&&anc b i k)
def order (b:Array Nat) (tab:List O) (rd:Op→Bool):List Nat→List Nat→List (Nat×Bool)
 | [],done =>
  let kd (p:Op→Bool) (i:Nat):Bool:=(tab[i]?).any fun o=>p o.o
  let new:=emit b tab.length done (kd rd)
  (new++emit b tab.length (done++new) fun _=>true).map fun i=>(i,false)
 | x::l,done =>
  let kd (p:Op→Bool) (i:Nat):Bool:=(tab[i]?).any fun o=>p o.o
  let early:=emit b tab.length done fun i=>kd rd i&&(anc b i x || !anc b x i)
  let new:=early++emit b tab.length (done++early) fun i=>anc b i x
  let done':=done++new
  new.map (fun i=>(i,false))++(x,false)::(done'.filter fun i=>kd isR i && !anc b i x).map (fun i=>(i,true))++order b tab rd l (done'++[x])
def aYN:Op→Bool
 | .ms _=>false
 | o=>isR o
def aE3 (n:Nat) (ops:Array Oper) (tab:List O) (b:Array Nat) (rd:Op→Bool):Option (Nat×List It) :=
 (aCl ops tab 0 (order b tab rd ((List.range tab.length).filter fun i=>(tab[i]?).any fun o=>isE o.o) [])).bind fun r =>
  if aNi ops b r.1 r.2 then some r else none
def aAJ (P:Program) (n:Nat) (ops:Array Oper):Option (Nat×List It) :=
 if P.follows .mixedOrders=true then
  (ops.toList.mapM (aCX P n ops)).bind fun tab =>
   let b:=Region.before ops
   match aE3 n ops tab b isR with
   | some r=>some r
   | none=>aE3 n ops tab b aYN
 else none
theorem aEI {α β:Type} {f:α→Option β}:∀ {l:List α} {m:List β} {i:Nat} {y:β},l.mapM f=some m→m[i]?=some y→∃ x,l[i]?=some x∧f x=some y:=by
 intro l
 induction l with
 | nil=>intro m i y h hy; simp at h; subst h; simp at hy
 | cons a l ih =>
  intro m i y h hy
  rw[List.mapM_cons] at h
  obtain ⟨b,h1,h⟩:=Option.bind_eq_some_iff.1 h
  obtain ⟨m',h2,h⟩:=Option.bind_eq_some_iff.1 h
  cases h
  cases i with
  | zero=>simp at hy; subst hy; exact ⟨a,rfl,h1⟩
  | succ i=>simpa using ih h2 (by simpa using hy)
section
variable {P:Program} {φ φ':Phi} {e e':Env} {a:Act} {h h':Hp} {w w':World} {v:Value} {cl:Nat→Sp} {base:Nat}
theorem aFC {l:List It}:∀ {e:Env} {h:Hp} {s:Env×Hp},aBR cl base l e h=some s →
  ∃ st:Nat→Env×Hp,st 0=(e,h)∧st l.length=s∧∀ p x,l[p]?=some x→aZ cl base (st p).1 (st p).2 x=some (st (p+1)):=by
 induction l with
 | nil=>intro e h s hr; cases hr; exact ⟨fun _=>(e,h),rfl,rfl,fun p x hx=>by simp at hx⟩
 | cons y l ih =>
  intro e h s hr
  obtain ⟨r,h1,h2⟩:=Option.bind_eq_some_iff.1 hr
  obtain ⟨st,s0,s1,s2⟩:=ih h2
  refine ⟨fun p=>match p with | 0=>(e,h) | p+1=>st p,rfl,s1,fun p x hx=>?_⟩
  cases p with
  | zero=>simp at hx; subst hx; simp only[s0]; exact h1
  | succ p=>exact s2 p x (by simpa using hx)
theorem aAB {b:Array Nat}:∀ {l:List It},aBj b l=true→∀ {p q:Nat} {x y:It},p<q→l[p]?=some x→l[q]?=some y→aEP b x y=true:=by
 intro l
 induction l with
 | nil=>intro _ p q x y _ hx; simp at hx
 | cons z l ih =>
  intro h p q x y hpq hx hy
  simp only[aBj,Bool.and_eq_true,List.all_eq_true] at h
  cases q with
  | zero=>omega
  | succ q =>
   simp only[List.getElem?_cons_succ] at hy
   cases p with
   | zero=>simp at hx; subst hx; exact h.1 y (List.mem_of_getElem? hy)
   | succ p=>exact ih h.2 (p:=p) (q:=q) (by omega) (by simpa using hx) hy
theorem aOm {b:Array Nat}:∀ {l rc es:List It},aOw b rc es l=true→∀ {p t:Nat} {x:It},l[p]?=some x→x.mso=some t →
  ((∀ y∈es,anc b y.i x.i=true)∧∀ (q:Nat) (y:It),q<p→l[q]?=some y→y.eff=true→anc b y.i x.i=true) ∨
  (∃ z∈rc,aGw b t x z=true∧∀ (q:Nat) (y:It),q<p→l[q]?=some y→y.eff=false) ∨
  ∃ (q:Nat) (z:It),q<p∧l[q]?=some z∧aGw b t x z=true∧∀ (r:Nat) (y:It),q<r→r<p→l[r]?=some y→y.eff=false:=by
 intro l
 induction l with
 | nil=>intro _ _ _ p t x hx; simp at hx
 | cons z l ih =>
  intro rc es h p t x hx hm
  simp only[aOw,Bool.and_eq_true] at h
  cases p with
  | zero =>
   simp at hx
   subst hx
   have h1:=h.1
   rw[hm] at h1
   simp only[Bool.or_eq_true,List.all_eq_true,List.any_eq_true] at h1
   rcases h1 with h1 | ⟨y,hy,h1⟩
   ·exact .inl ⟨h1,fun q y hq=>by omega⟩
   ·exact .inr (.inl ⟨y,hy,h1,fun q y hq=>by omega⟩)
  | succ p =>
   rcases ih h.2 (p:=p) (by simpa using hx) hm with ⟨h1,h2⟩ | ⟨y,hy,h1,h2⟩ | ⟨q,y,h1,h2,h3,h4⟩
   ·refine .inl ⟨fun y hy=>?_,fun q y hq hy he=>?_⟩
    ·by_cases hz:z.eff=true
     ·rw[if_pos hz] at h1; exact h1 y (List.mem_cons_of_mem _ hy)
     ·rw[if_neg hz] at h1; exact h1 y hy
    ·cases q with
     | zero=>simp at hy; subst hy; rw[if_pos he] at h1; exact h1 _ (List.mem_cons_self ..)
     | succ q=>exact h2 q y (by omega) (by simpa using hy) he
   ·by_cases hz:z.eff=true
    ·rw[if_pos hz] at hy; simp at hy
    ·rw[if_neg hz] at hy
     rcases List.mem_cons.1 hy with rfl | hy
     ·refine .inr (.inr ⟨0,y,by omega,rfl,h1,fun r u h5 h6 hu=>?_⟩)
      cases r with
      | zero=>omega
      | succ r=>exact h2 r u (by omega) (by simpa using hu)
     ·refine .inr (.inl ⟨y,hy,h1,fun q u hq hu=>?_⟩)
      cases q with
      | zero=>simp at hu; subst hu; simpa using hz
      | succ q=>exact h2 q u (by omega) (by simpa using hu)
   ·refine .inr (.inr ⟨q+1,y,by omega,by simpa using h2,h3,fun r u h5 h6 hu=>?_⟩)
    cases r with
    | zero=>omega
    | succ r=>exact h4 r u (by omega) (by omega) (by simpa using hu)
theorem aKI {α:Type} {p:α→Bool} {x:α}:∀ {l:List α},x∈l.takeWhile p→p x=true:=by
 intro l
 induction l with
 | nil=>intro h; simp at h
 | cons y l ih =>
  intro h
  rw[List.takeWhile_cons] at h
  split at h
  ·rcases List.mem_cons.1 h with rfl | h
   ·assumption
   ·exact ih h
  ·simp at h
theorem aMT {b:Array Nat}:∀ {l seen:List It},aGn b seen l=true→∀ {q:Nat} {y x:It},l[q]?=some x→x.eff=true→(y∈seen∨∃ p,p<q∧l[p]?=some y∧y.rdr=true) →
  anc b y.i x.i=true∨∃ r z,q<r∧l[r]?=some z∧z.bH=true∧z.i=y.i∧∀ s u,q<s→s<r→l[s]?=some u→u.bH=true:=by
 intro l
 induction l with
 | nil=>intro _ _ q y x hx; simp at hx
 | cons z l ih =>
  intro seen h q y x hx he hy
  simp only[aGn,Bool.and_eq_true] at h
  cases q with
  | zero =>
   simp at hx
   subst hx
   have hys:y∈seen:=by
    rcases hy with hy | ⟨p,hp,_⟩
    ·exact hy
    ·omega
   have:=List.all_eq_true.1 (aAr h.1 he) y hys
   simp only[Bool.or_eq_true,List.any_eq_true,beq_iff_eq] at this
   refine this.imp id fun ⟨z',hz,hi⟩=>?_
   obtain ⟨r,hr,hrz⟩:=List.getElem_of_mem hz
   have hre:=aKI hz
   have hpre:=List.takeWhile_prefix (p:=It.bH) (l:=l)
   refine ⟨r+1,z',by omega,?_,hre,hi,fun s u hs hsr hu=>?_⟩
   ·simp only[List.getElem?_cons_succ]
    rw[← hrz]
    obtain ⟨t,ht⟩:=hpre
    conv=>lhs; rw[← ht]
    rw[List.getElem?_append_left hr,List.getElem?_eq_getElem hr]
   ·cases s with
    | zero=>omega
    | succ s =>
     simp only[List.getElem?_cons_succ] at hu
     have hs':s<(l.takeWhile It.bH).length:=by omega
     obtain ⟨t,ht⟩:=hpre
     rw[← ht,List.getElem?_append_left hs',List.getElem?_eq_getElem hs'] at hu
     cases hu
     exact aKI (List.getElem_mem hs')
  | succ q =>
   simp only[List.getElem?_cons_succ] at hx
   have hy':y∈(if z.rdr then z::seen else seen)∨∃ p,p<q∧l[p]?=some y∧y.rdr=true:=by
    rcases hy with hy | ⟨p,hp,hpy,hr⟩
    ·left; split<;>simp[hy]
    ·cases p with
     | zero=>simp at hpy; subst hpy; left; rw[if_pos hr]; simp
     | succ p=>exact .inr ⟨p,by omega,by simpa using hpy,hr⟩
   refine (ih h.2 hx he hy').imp id fun ⟨r,z',h1,h2,h3,h4,h5⟩=>⟨r+1,z',by omega,by simpa using h2,h3,h4,fun s u hs hsr hu=>?_⟩
   cases s with
   | zero=>omega
   | succ s=>exact h5 s u (by omega) (by omega) (by simpa using hu)
theorem aGi {x:It} (hr:aZ cl base e h x=some (e',h')) {t:Nat} (ht:x.w≠some t):e' t=e t:=by
 have key:∀ (d:Option Nat) (v:Value),d≠some t→put e d v t=e t:=fun d v hd=>by
  cases d with
  | none=>rfl
  | some d=>simp only[put,upd]; rw[if_neg fun h=>hd (by rw[h])]
 cases x with
 | op i o =>
  simp only[aZ,bF] at hr
  split at hr
  ·cases hr
  ·cases hr; exact key _ _ ht
  ·obtain ⟨r,_,hh⟩:=Option.map_eq_some_iff.1 hr; cases hh; exact key _ _ ht
 | al i j o =>
  simp only[aZ] at hr
  split at hr
  ·cases hr
  ·cases hr; exact key _ _ ht
  ·obtain ⟨r,_,hh⟩:=Option.map_eq_some_iff.1 hr; cases hh; exact key _ _ ht
 | re i o =>
  simp only[aZ] at hr
  repeat' split at hr
  all_goals first | (cases hr; done) | (cases hr; rfl)
def merge (A G G':Hp) (hn:A.next≤G'.next):Hp :=
 ⟨G'.next,fun b=>match G'.get b with
  | some o=>some o
  | none=>if G.get b=none then A.get b else none,fun b hb=>by
  rw[G'.wf b hb]
  simp only
  split
  ·exact A.wf b (Nat.le_trans hn hb)
  ·rfl⟩
theorem Ext.frames {A G G':Hp} (hA:HR φ A w) (hin:∀ b o,G.get b=some o→A.get b=some o) (hnx:G.next=A.next) (x:Ext φ G w φ' G' w') (hle:Le G G') (hn:A.next≤G'.next) :
  Ext φ A w φ' (merge A G G' hn) w':=by
 have hG:∀ b o,A.get b=some o→G.get b=none→∃ b' n,φ b=some (b',n)∧OR φ w b' n o∧w'.heap[b']?=w.heap[b']?:=by
  intro b o hb hg
  obtain ⟨b',n,h1,h2⟩:=hA.live b o hb
  refine ⟨b',n,h1,h2,x.frame b' h2.lt fun c m hw hc=>?_⟩
  have hs:(G.get c).isSome=true:=by
   unfold Hp.wrt at hw
   cases hgc:G.get c<;>simp_all
  obtain ⟨o',ho'⟩:=Option.isSome_iff_exists.1 hs
  have:=hA.inj c b b' m n (by simp[hin c o' ho']) (by simp[hb]) hc h1
  subst this
  rw[hg] at hs
  cases hs
 have hget:∀ b o,(merge A G G' hn).get b=some o→G'.get b=some o∨(G'.get b=none∧G.get b=none∧A.get b=some o):=by
  intro b o hb
  simp only[merge] at hb
  split at hb
  ·cases hb; exact .inl (by assumption)
  ·split at hb
   ·exact .inr ⟨by assumption,by assumption,hb⟩
   ·cases hb
 refine ⟨x.sub,⟨?_,?_,?_⟩,x.os,x.tape,x.output,x.size,?_,?_,?_⟩
 ·intro b o hb
  rcases hget b o hb with hb | ⟨_,h2,h3⟩
  ·exact x.hr.live b o hb
  ·obtain ⟨b',n,h4,h5,h6⟩:=hG b o h3 h2
   exact ⟨b',n,x.sub _ _ h4,h5.mono x.sub h6⟩
 ·have cross:∀ b c b' n m o p,G'.get b=some o→G.get c=none→A.get c=some p→φ' b=some (b',n)→φ' c=some (b',m)→b=c:=by
   intro b c b' n m o p hb hc hp h1 h2
   obtain ⟨c',k,h4,h5,_⟩:=hG c p hp hc
   rw[x.sub _ _ h4] at h2
   cases h2
   obtain ⟨d,q,h6,h7,_⟩:=x.img b b' n (by simp[hb]) h1 h5.lt
   obtain ⟨od,hod⟩:=Option.isSome_iff_exists.1 h6
   have:=hA.inj d c b' q _ (by simp[hin d od hod]) (by simp[hp]) h7 h4
   subst this
   rw[hc] at h6
   cases h6
  intro b c b' n m hb hc h1 h2
  obtain ⟨o,ho⟩:=Option.isSome_iff_exists.1 hb
  obtain ⟨p,hp⟩:=Option.isSome_iff_exists.1 hc
  rcases hget b o ho with g1 | ⟨_,g1,g2⟩<;>rcases hget c p hp with k1 | ⟨_,k1,k2⟩
  ·exact x.hr.inj b c b' n m (by simp[g1]) (by simp[k1]) h1 h2
  ·exact cross b c b' n m o p g1 k1 k2 h1 h2
  ·exact (cross c b b' m n p o k1 g1 g2 h2 h1).symm
  ·obtain ⟨b₁,n₁,q1,_⟩:=hG b o g2 g1
   obtain ⟨c₁,m₁,q2,_⟩:=hG c p k2 k1
   have e1:=x.sub _ _ q1
   have e2:=x.sub _ _ q2
   rw[h1] at e1
   rw[h2] at e2
   cases e1
   cases e2
   exact hA.inj b c b' n m (by simp[g2]) (by simp[k2]) q1 q2
 ·intro b hb
  exact x.hr.fresh b hb
 ·intro b' hb hf
  refine x.frame b' hb fun c n hw=>hf c n ?_
  unfold Hp.wrt at hw ⊢
  cases hgc:G.get c with
  | none=>rw[hgc] at hw; cases hw
  | some o=>rw[hin c o hgc]; rw[hgc] at hw; exact hw
 ·intro b b' n hb h1 hlt
  obtain ⟨o,ho⟩:=Option.isSome_iff_exists.1 hb
  rcases hget b o ho with g1 | ⟨_,g1,g2⟩
  ·obtain ⟨c,m,h2,h3,h4⟩:=x.img b b' n (by simp[g1]) h1 hlt
   obtain ⟨oc,hoc⟩:=Option.isSome_iff_exists.1 h2
   refine ⟨c,m,by simp[hin c oc hoc],h3,fun hw=>?_⟩
   have:G'.wrt b=true:=by
    unfold Hp.wrt at hw ⊢
    rw[ho] at hw
    rw[g1]
    exact hw
   have:=h4 this
   unfold Hp.wrt at this ⊢
   rw[hoc] at this
   rw[hin c oc hoc]
   exact this
  ·obtain ⟨c',m,q1,_⟩:=hG b o g2 g1
   have e1:=x.sub _ _ q1
   rw[h1] at e1
   cases e1
   refine ⟨b,n,by simp[g2],q1,fun hw=>?_⟩
   unfold Hp.wrt at hw ⊢
   rw[ho] at hw
   rw[g2]
   exact hw
 ·intro b hb
  exact .inl (x.still hle (by omega))
theorem merge_le {A G G':Hp} (hin:∀ b o,G.get b=some o→A.get b=some o) (hnx:G.next=A.next) (hle:Le G G') (hn:A.next≤G'.next):Le A (merge A G G' hn) :=
 ⟨hn,fun b hb h0=>by
  have hg:G.get b=none:=by
   cases hgb:G.get b with
   | none=>rfl
   | some o=>rw[hin b o hgb] at h0; cases h0
  simp only[merge,hle.2 b (by omega) hg,hg,if_true,h0]⟩
end
theorem aAA {b:Array Nat} {x y:It} (h:aEP b x y=true) (hx:x.bH=false) (hy:y.bH=false) :
  x.i≠y.i∧anc b y.i x.i=false∧(∀ t,x.w=some t→y.w≠some t∧(t∈y.o.ts→anc b x.i y.i=true))∧(∀ t,y.w=some t→t∈x.o.ts→anc b x.i y.i=true∧x.rdr=false) ∧
  (x.eff=true→y.eff=true→anc b x.i y.i=true)∧(∀ j,x.alc=some j→y.eff=true→anc b x.i y.i=true)∧(x.eff=true→y.rdr=true→y.mso=none→anc b x.i y.i=true) ∧
  (∀ j,x.alc=some j→y.alc≠some j):=by
 simp only[aEP,hx,hy,Bool.false_or,Bool.and_eq_true,bne_iff_ne,ne_eq,Bool.not_eq_true'] at h
 obtain ⟨⟨⟨⟨⟨⟨⟨h1,h2⟩,h3⟩,h4⟩,h5⟩,h6⟩,h7⟩,h8⟩:=h
 refine ⟨h1,h2,?_,?_,?_,?_,?_,?_⟩
 ·intro t ht
  rw[ht] at h3
  simp only[Bool.and_eq_true,bne_iff_ne,ne_eq] at h3
  exact ⟨h3.1,fun hm=>aAr h3.2 (by simpa using hm)⟩
 ·intro t ht hm
  rw[ht] at h4
  have:=aAr h4 (by simpa using hm)
  simpa using this
 ·intro hx hy; exact aAr h5 (by simp[hx,hy])
 ·intro j hj hy; exact aAr h6 (by simp[hj,hy])
 ·intro hx hy hm; exact aAr h7 (by simp[hx,hy,hm])
 ·intro j hj
  rw[hj] at h8
  simpa using h8
structure Ctx (P:Program) (cl:Nat→Sp) (n:Nat) (ops:Array Oper) (tab:List O) (b:Array Nat) (k base:Nat) (its:List It) (st:Nat→Env×Hp):Prop where
 hcl:∀ f,aV P f (cl f)
 tabs:ops.toList.mapM (aCX P n ops)=some tab
 src:∀ x∈its,Made ops tab x
 close:aFw ops b=true
 pairs:aBj b its=true
 mss:aOw b [] [] its=true
 res:aGn b [] its=true
 item:∀ x∈its,aCp b k x=true
 cover:∀ i,i<ops.size→∃ x∈its,x.bH=false∧x.i=i
 run:∀ p x,its[p]?=some x→aZ cl base (st p).1 (st p).2 x=some (st (p+1))
 free:∀ j,j<k→(st 0).2.get (base+j)=none
 next:base+k≤(st 0).2.next
noncomputable def eS (its:List It) (st:Nat→Env×Hp) (S:Nat→Prop):Env :=
 fun t=>if ∃ (q:Nat) (x:It),its[q]?=some x∧x.w=some t∧S x.i then (st its.length).1 t else (st 0).1 t
theorem aAl {x:It} {t:Nat} (h:x.w=some t):x.bH=false:=by cases x<;>simp_all [It.w,It.bH]
theorem w_of {x:It} (h:x.bH=false):x.w=x.o.d:=by cases x<;>simp_all [It.w,It.bH,It.o]
section
variable {P:Program} {cl:Nat→Sp} {n:Nat} {ops:Array Oper} {tab:List O} {b:Array Nat} {k base:Nat} {its:List It} {st:Nat→Env×Hp} {S:Nat→Prop}
variable {φ φ':Phi} {e e':Env} {a:Act} {h h':Hp} {w w':World} {v:Value}
theorem Ctx.uniq (c:Ctx P cl n ops tab b k base its st) {p q:Nat} {x y:It} (hx:its[p]?=some x) (hy:its[q]?=some y) (h1:x.bH=false) (h2:y.bH=false) (he:x.i=y.i):p=q:=by
 rcases Nat.lt_trichotomy p q with h | h | h
 ·exact absurd he (aAA (aAB c.pairs h hx hy) h1 h2).1
 ·exact h
 ·exact absurd he.symm (aAA (aAB c.pairs h hy hx) h2 h1).1
theorem Ctx.keep (c:Ctx P cl n ops tab b k base its st) {t p:Nat}:∀ q,p≤q→q≤its.length→(∀ (r:Nat) (y:It),p≤r→r<q→its[r]?=some y→y.w≠some t)→(st q).1 t=(st p).1 t:=by
 intro q
 induction q with
 | zero=>intro hp _ _; rw[Nat.le_zero.1 hp]
 | succ q ih =>
  intro hp hq hn
  rcases Nat.lt_or_ge p (q+1) with hlt | hge
  ·have hx:its[q]?=some its[q]:=List.getElem?_eq_getElem (by omega)
   rw[aGi (c.run q _ hx) (hn q _ (by omega) (by omega) hx)]
   exact ih (by omega) (by omega) fun r y h1 h2=>hn r y h1 (by omega)
  ·rw[show p=q+1 by omega]
theorem Ctx.aTh (c:Ctx P cl n ops tab b k base its st) {p:Nat} {x:It} (hx:its[p]?=some x) (hre:x.bH=false) (hns:¬ S x.i) (hup:∀ i,anc b i x.i=true→S i)
  (hdn:∀ k,S k→∀ i,anc b i k=true→S i):∀ t∈x.o.ts,eS its st S t=(st p).1 t:=by
 intro t ht
 have hp:p<its.length:=(List.getElem?_eq_some_iff.1 hx).1
 unfold eS
 split
 ·rename_i hh
  obtain ⟨q,y,hy,hw,hs⟩:=hh
  have hyr:=aAl hw
  have hqp:q<p:=by
   rcases Nat.lt_trichotomy q p with hlt | heq | hgt
   ·exact hlt
   ·subst heq
    rw[hx] at hy
    cases hy
    exact absurd hs hns
   ·have:=(aAA (aAB c.pairs hgt hx hy) hre hyr).2.2.2.1 t hw ht
    exact absurd (hdn _ hs _ this.1) hns
  refine c.keep its.length (by omega) (Nat.le_refl _) fun r z h1 h2 hz hzw=>?_
  exact ((aAA (aAB c.pairs (show q<r by omega) hy hz) hyr (aAl hzw)).2.2.1 t hw).1 hzw
 ·rename_i hh
  refine (c.keep p (Nat.zero_le _) (by omega) fun r z h1 h2 hz hzw=>hh ⟨r,z,hz,hzw,?_⟩).symm
  exact hup _ (((aAA (aAB c.pairs h2 hz hx) (aAl hzw) hre).2.2.1 t hzw).2 ht)
theorem Ctx.aVq (c:Ctx P cl n ops tab b k base its st) {p r:Nat} {x:It} (hx:its[p]?=some x) (hre:x.bH=false) (hrd:x.rdr=true) (hpr:p<r) (hr:r≤its.length):∀ t∈x.o.ts,(st r).1 t=(st p).1 t:=by
 intro t ht
 refine c.keep r (by omega) hr fun q y h1 h2 hy hyw=>?_
 rcases Nat.lt_or_ge p q with hlt | hge
 ·have:=((aAA (aAB c.pairs hlt hx hy) hre (aAl hyw)).2.2.2.1 t hyw ht).2
  rw[hrd] at this
  cases this
 ·have:q=p:=by omega
  subst this
  rw[hx] at hy
  cases hy
  have:=c.item x (List.mem_of_getElem? hx)
  simp only[aCp,Bool.and_eq_true] at this
  have:=aAr this.2 hrd
  rw[hyw] at this
  simp at this
  exact this ht
theorem Ctx.aD6 (c:Ctx P cl n ops tab b k base its st) {p:Nat} {x:It} (hx:its[p]?=some x) (hre:x.bH=false) {v:Value} (hv:∀ d,x.o.d=some d→(st (p+1)).1 d=v) :
  eS its st (fun i=>S i∨i=x.i)=put (eS its st S) x.o.d v:=by
 have hp:p<its.length:=(List.getElem?_eq_some_iff.1 hx).1
 have hw:=w_of hre
 have old:∀ t,x.w≠some t→eS its st (fun i=>S i∨i=x.i) t=eS its st S t:=by
  intro t ht
  have:(∃ (q:Nat) (y:It),its[q]?=some y∧y.w=some t∧(S y.i∨y.i=x.i))↔∃ (q:Nat) (y:It),its[q]?=some y∧y.w=some t∧S y.i:=by
   constructor
   ·rintro ⟨q,y,h1,h2,h3 | h3⟩
    ·exact ⟨q,y,h1,h2,h3⟩
    ·have:=c.uniq h1 hx (aAl h2) hre h3
     subst this
     rw[hx] at h1
     cases h1
     exact absurd h2 ht
   ·rintro ⟨q,y,h1,h2,h3⟩
    exact ⟨q,y,h1,h2,.inl h3⟩
  unfold eS
  simp only[this]
 cases hd:x.o.d with
 | none=>funext t; exact old t (by rw[hw,hd]; simp)
 | some d =>
  funext t
  simp only[put,upd]
  split
  ·rename_i e
   subst e
   rw[← hv t hd]
   unfold eS
   rw[if_pos ⟨p,x,hx,by rw[hw,hd],.inr rfl⟩]
   refine c.keep its.length (by omega) (Nat.le_refl _) fun r z h1 h2 hz hzw=>?_
   exact ((aAA (aAB c.pairs (show p<r by omega) hx hz) hre (aAl hzw)).2.2.1 t (by rw[hw,hd])).1 hzw
  ·rename_i hne
   exact old t (by rw[hw,hd]; simpa using fun e=>hne e.symm)
theorem Ctx.still (c:Ctx P cl n ops tab b k base its st) {p:Nat} {x:It} (hx:its[p]?=some x) (h1:x.eff=false) (h2:x.alc=none):(st (p+1)).2=(st p).2:=by
 have hr:=c.run p x hx
 have hm:=c.src x (List.mem_of_getElem? hx)
 cases x with
 | al i j o=>cases h2
 | re i o =>
  simp only[aZ] at hr
  repeat' split at hr
  all_goals first | (cases hr; done) | (simp only[Option.some.injEq] at hr; rw[← hr])
 | op i o =>
  have hA:isA o.o=false:=hm.2
  simp only[It.eff] at h1
  simp only[aZ,bF] at hr
  split at hr
  ·cases hr
  ·simp only[Option.some.injEq] at hr; rw[← hr]
  ·obtain ⟨⟨v,g⟩,h3,h4⟩:=Option.map_eq_some_iff.1 hr
   rw[← h4]
   have h5:opV (st p).1 (st p).2 o.o=some (v,g):=by
    unfold act at h3
    split at h3
    ·rename_i e; rw[e] at h1; cases h1
    ·rename_i e; rw[e] at h1; cases h1
    ·exact h3
   by_cases hR:isR o.o=true
   ·exact (aCM hR h5).1
   ·exact (aB3 h1 hA (by simpa using hR) h5).1
theorem Ctx.made (c:Ctx P cl n ops tab b k base its st) {p i j:Nat} {o:O} (hx:its[p]?=some (.al i j o)) :
  (gd (st p).1 o.g=some false∧st (p+1)=(put (st p).1 o.d undef,(st p).2)) ∨
  ∃ r,gd (st p).1 o.g=some true∧opA (base+j) (st p).1 o.o=some r∧st (p+1)=(put (st p).1 o.d r.1,(st p).2.put (base+j) (some r.2)):=by
 have hr:=c.run p _ hx
 simp only[aZ] at hr
 split at hr
 ·cases hr
 ·rename_i hg
  left
  exact ⟨hg,by simpa using hr.symm⟩
 ·rename_i hg
  obtain ⟨r,h1,h2⟩:=Option.map_eq_some_iff.1 hr
  exact .inr ⟨r,hg,h1,h2.symm⟩
theorem Ctx.aLN (c:Ctx P cl n ops tab b k base its st) {p:Nat} {x:It} (hx:its[p]?=some x) (he:x.eff=true):Le (st p).2 (st (p+1)).2:=by
 have hr:=c.run p x hx
 cases x with
 | al i j o=>cases he
 | re i o=>cases he
 | op i o=>exact aCP c.hcl (show bF cl o (st p).1 (st p).2=some ((st (p+1)).1,(st (p+1)).2) from hr)
theorem Ctx.alk (c:Ctx P cl n ops tab b k base its st) {p i j:Nat} {o:O} (hx:its[p]?=some (.al i j o)):j<k:=by
 have:=c.item _ (List.mem_of_getElem? hx)
 simp only[aCp,It.alc,Bool.and_eq_true,decide_eq_true_eq] at this
 exact this.1.1.1
theorem Ctx.nexts (c:Ctx P cl n ops tab b k base its st):∀ p,p≤its.length→base+k≤(st p).2.next:=by
 intro p
 induction p with
 | zero=>intro _; exact c.next
 | succ p ih =>
  intro hp
  have hx:its[p]?=some its[p]:=List.getElem?_eq_getElem (by omega)
  have h0:=ih (by omega)
  by_cases he:its[p].eff=true
  ·exact Nat.le_trans h0 (c.aLN hx he).1
  ·cases hal:its[p] with
   | op i o=>rw[c.still hx (by simpa using he) (by rw[hal]; rfl)]; exact h0
   | re i o=>rw[c.still hx (by simpa using he) (by rw[hal]; rfl)]; exact h0
   | al i j o =>
    rw[hal] at hx
    rcases c.made hx with ⟨_,h1⟩ | ⟨r,_,_,h1⟩<;>rw[h1]<;>exact h0
theorem Ctx.resv (c:Ctx P cl n ops tab b k base its st) {q i j:Nat} {o:O} (hq:its[q]?=some (.al i j o)):∀ p,p≤q→(st p).2.get (base+j)=none:=by
 have hql:q<its.length:=(List.getElem?_eq_some_iff.1 hq).1
 intro p
 induction p with
 | zero=>intro _; exact c.free j (c.alk hq)
 | succ p ih =>
  intro hp
  have hx:its[p]?=some its[p]:=List.getElem?_eq_getElem (by omega)
  have h0:=ih (by omega)
  by_cases he:its[p].eff=true
  ·have h1:=c.nexts p (by omega)
   have h2:=c.alk hq
   exact (c.aLN hx he).2 _ (by omega) h0
  ·cases hal:its[p] with
   | op i o=>rw[c.still hx (by simpa using he) (by rw[hal]; rfl)]; exact h0
   | re i o=>rw[c.still hx (by simpa using he) (by rw[hal]; rfl)]; exact h0
   | al i' j' o' =>
    rw[hal] at hx
    have hj:j'≠j:=fun e=>(aAA (aAB c.pairs (show p<q by omega) hx hq) rfl rfl).2.2.2.2.2.2.2 j' rfl (by rw[e]; rfl)
    rcases c.made hx with ⟨_,h1⟩ | ⟨r,_,_,h1⟩<;>rw[h1]
    ·exact h0
    ·simp only[Hp.put]
     rw[if_neg (by omega)]
     exact h0
theorem Ctx.upto (c:Ctx P cl n ops tab b k base its st) {L:Nat} {A:Hp} (hn:A.next=(st L).2.next) (hin:∀ b o,(st L).2.get b=some o→A.get b=some o):∀ p,L≤p→p≤its.length →
  (∀ (q:Nat) (x:It),L≤q→q<p→its[q]?=some x→x.eff=false) →
  (∀ (q i j:Nat) (o:O),L≤q→q<p→its[q]?=some (.al i j o)→gd (st q).1 o.g=some true→∀ r,opA (base+j) (st q).1 o.o=some r→A.get (base+j)=some r.2) →
  (st p).2.next=A.next∧∀ b o,(st p).2.get b=some o→A.get b=some o:=by
 intro p
 induction p with
 | zero=>intro hL _ _ _; rw[Nat.le_zero.1 hL] at hn hin; exact ⟨hn.symm,hin⟩
 | succ p ih =>
  intro hL hp hne hal
  rcases Nat.lt_or_ge L (p+1) with hlt | hge
  ·have hx:its[p]?=some its[p]:=List.getElem?_eq_getElem (by omega)
   obtain ⟨h1,h2⟩:=ih (by omega) (by omega) (fun q x a b=>hne q x a (by omega)) (fun q i j o a b=>hal q i j o a (by omega))
   have he:=hne p _ (by omega) (by omega) hx
   cases hcs:its[p] with
   | op i o=>rw[c.still hx he (by rw[hcs]; rfl)]; exact ⟨h1,h2⟩
   | re i o=>rw[c.still hx he (by rw[hcs]; rfl)]; exact ⟨h1,h2⟩
   | al i j o =>
    rw[hcs] at hx
    rcases c.made hx with ⟨_,h3⟩ | ⟨r,hg,hr,h3⟩<;>rw[h3]
    ·exact ⟨h1,h2⟩
    ·refine ⟨h1,fun b' o' hb=>?_⟩
     simp only[Hp.put] at hb
     split at hb
     ·rename_i e
      rw[e.1,hal p i j o (by omega) (by omega) hx hg r hr]
      exact hb
     ·exact h2 b' o' hb
  ·have:L=p+1:=by omega
   rw[this] at hn hin
   exact ⟨hn.symm,hin⟩
theorem Ctx.aRj (c:Ctx P cl n ops tab b k base its st) {L:Nat} {A:Hp} {φ:Phi} (hin:∀ b o,(st L).2.get b=some o→A.get b=some o):∀ p,L≤p→p≤its.length →
  (∀ (q:Nat) (x:It),L≤q→q<p→its[q]?=some x→x.eff=false) →
  (∀ (q i j:Nat) (o:O),L≤q→q<p→its[q]?=some (.al i j o)→gd (st q).1 o.g=some true→∀ r,opA (base+j) (st q).1 o.o=some r→φ (base+j)=none∨A.get (base+j)=some r.2) →
  ∀ b o,(φ b).isSome=true→(st p).2.get b=some o→A.get b=some o:=by
 intro p
 induction p with
 | zero=>intro hL _ _ _ b o _; rw[Nat.le_zero.1 hL] at hin; exact hin b o
 | succ p ih =>
  intro hL hp hne hal
  rcases Nat.lt_or_ge L (p+1) with hlt | hge
  ·have hx:its[p]?=some its[p]:=List.getElem?_eq_getElem (by omega)
   have h2:=ih (by omega) (by omega) (fun q x a b=>hne q x a (by omega)) (fun q i j o a b=>hal q i j o a (by omega))
   have he:=hne p _ (by omega) (by omega) hx
   cases hcs:its[p] with
   | op i o=>rw[c.still hx he (by rw[hcs]; rfl)]; exact h2
   | re i o=>rw[c.still hx he (by rw[hcs]; rfl)]; exact h2
   | al i j o =>
    rw[hcs] at hx
    rcases c.made hx with ⟨_,h3⟩ | ⟨r,hg,hr,h3⟩<;>rw[h3]
    ·exact h2
    ·intro b' o' hs hb
     simp only[Hp.put] at hb
     split at hb
     ·rename_i e
      rcases hal p i j o (by omega) (by omega) hx hg r hr with h4 | h4
      ·rw[e.1,h4] at hs; cases hs
      ·rw[e.1,h4]; exact hb
     ·exact h2 b' o' hs hb
  ·intro b o _
   have:L=p+1:=by omega
   rw[this] at hin
   exact hin b o
theorem aIp {o:Oper} {oo:O} {id:Nat} {fill:Ob→Hp} {ob:Ob} {K:Act→World→Prop} {Q:Exit→Act→World→Prop} (hc:aCX P n ops o=some oo) (hg:aJy o.op=true) (sl:Slot φ h id fill) (hb:gd e oo.g=some true)
  (hv:opA id e oo.o=some (v,ob)) (he:ER φ e a) (hr:HR φ h w) (hn:n≤a.tmps.size) (hK:Then φ h w (put e oo.d v) (fill ob) a K) :
  if Region.wanted o (yielded ops a.tmps) then o.wp P a w K Q else K (a.put o.dst undef) w:=by
 unfold aCX at hc
 split at hc
 case isFalse=>cases hc
 rename_i hd
 obtain ⟨g,hg',hc⟩:=Option.bind_eq_some_iff.1 hc
 obtain ⟨op,hop,hc⟩:=Option.bind_eq_some_iff.1 hc
 split at hc
 case isFalse=>cases hc
 cases hc
 have hdl:∀ t,o.dst=some t→t<a.tmps.size:=fun t ht=>by
  rw[ht] at hd
  simp[aKX] at hd
  exact Nat.lt_of_lt_of_le hd hn
 rw[aCG hg' he hb]
 simp only[if_true]
 obtain ⟨φ',u,w',hor,hext,hvr⟩:=aBd sl hg hop he hr hv
 unfold Oper.wp
 rcases hor with hx | ⟨hx,rfl⟩
 ·rw[hx,Oper.upon_value]
  exact hK φ' _ w' hext ((he.mono hext.sub).put hvr hdl) (size_put _ _ _) (aAZ _ _ _)
 ·rw[hx,Oper.upon_skip]
  exact hK φ' _ w' hext ((he.mono hext.sub).put hvr hdl) (size_put _ _ _) (aAZ _ _ _)
end
structure aCs (b:Array Nat) (base:Nat) (its:List It) (st:Nat→Env×Hp) (φ₀:Phi) (h₀:Hp) (w₀:World) (a₀:Act) (S:Nat→Prop) (a:Act) (w:World) (φ:Phi) (A:Hp) (L:Nat):Prop where
 ext:Ext φ₀ h₀ w₀ φ A w
 le:Le h₀ A
 er:ER φ (eS its st S) a
 size:a.tmps.size=a₀.tmps.size
 defers:a.defers=a₀.defers
 dn:∀ k,S k→∀ i,anc b i k=true→S i
 lL:L≤its.length
 last:L=0∨∃ p x,p+1=L∧its[p]?=some x∧x.eff=true∧S x.i
 noE:∀ (q:Nat) (x:It),L≤q→its[q]?=some x→x.eff=true→¬ S x.i
 next:A.next=(st L).2.next
 inn:∀ b o,(st L).2.get b=some o→A.get b=some o
 als:∀ (q i j:Nat) (o:O),L≤q→its[q]?=some (.al i j o)→S i→gd (st q).1 o.g=some true→∀ r,opA (base+j) (st q).1 o.o=some r→A.get (base+j)=some r.2
 res:∀ (q i j:Nat) (o:O),its[q]?=some (.al i j o)→¬ S i→A.get (base+j)=none∧φ (base+j)=none
section
variable {P:Program} {cl:Nat→Sp} {n:Nat} {ops:Array Oper} {tab:List O} {b:Array Nat} {k base:Nat} {its:List It} {st:Nat→Env×Hp} {S:Nat→Prop}
variable {φ φ' φ₀:Phi} {e e':Env} {a a₀:Act} {A h h' h₀:Hp} {w w' w₀:World} {v:Value} {L:Nat}
theorem aBn (e:Env) (d:Nat) (v:Value):put e (some d) v d=v:=by simp[put,upd]
theorem aBv {x:It} (h:x.eff=true):x.bH=false:=by cases x<;>simp_all [It.eff,It.bH]
theorem aCs.aOJ (I:aCs b base its st φ₀ h₀ w₀ a₀ S a w φ A L) (c:Ctx P cl n ops tab b k base its st) {p:Nat} {x:It} (hx:its[p]?=some x) (hre:x.bH=false) (hk:x.eff=true∨∀ (q:Nat) (y:It),q<p→its[q]?=some y→y.eff=true→anc b y.i x.i=true) (hup:∀ i,anc b i x.i=true→S i) (hL:L≤p) :
  ∀ (q:Nat) (y:It),L≤q→q<p→its[q]?=some y→y.eff=false:=by
 intro q y h1 h2 hy
 cases he:y.eff with
 | false=>rfl
 | true =>
  have hs:=aAA (aAB c.pairs h2 hy hx) (aBv he) hre
  refine absurd (hup _ ?_) (I.noE q y h1 hy he)
  rcases hk with hk | hk
  ·exact hs.2.2.2.2.1 he hk
  ·exact hk q y h2 hy he
theorem aCs.here (I:aCs b base its st φ₀ h₀ w₀ a₀ S a w φ A L) (c:Ctx P cl n ops tab b k base its st) {p:Nat} {x:It} (hx:its[p]?=some x) (hre:x.bH=false) (hk:x.eff=true) (hup:∀ i,anc b i x.i=true→S i) (hL:L≤p) :
  (st p).2.next=A.next∧∀ b o,(st p).2.get b=some o→A.get b=some o:=by
 have hp:p<its.length:=(List.getElem?_eq_some_iff.1 hx).1
 refine c.upto I.next I.inn p hL (by omega) (I.aOJ c hx hre (.inl hk) hup hL) (fun q i j o h1 h2 hy hg r hr=>?_)
 have hs:=aAA (aAB c.pairs h2 hy hx) rfl hre
 exact I.als q i j o h1 hy (hup _ (hs.2.2.2.2.2.1 j rfl hk)) hg r hr
theorem aCs.aSM (I:aCs b base its st φ₀ h₀ w₀ a₀ S a w φ A L) (c:Ctx P cl n ops tab b k base its st) {p:Nat} {x:It} (hx:its[p]?=some x) (hre:x.bH=false) (hk:∀ (q:Nat) (y:It),q<p→its[q]?=some y→y.eff=true→anc b y.i x.i=true) (hup:∀ i,anc b i x.i=true→S i) (hL:L≤p) :
  ∀ b o,(φ b).isSome=true→(st p).2.get b=some o→A.get b=some o:=by
 have hp:p<its.length:=(List.getElem?_eq_some_iff.1 hx).1
 refine c.aRj I.inn p hL (by omega) (I.aOJ c hx hre (.inr hk) hup hL) (fun q i j o h1 h2 hy hg r hr=>?_)
 by_cases hS:S i
 ·exact .inr (I.als q i j o h1 hy hS hg r hr)
 ·exact .inl (I.res q i j o hy hS).2
theorem aCs.calm (I:aCs b base its st φ₀ h₀ w₀ a₀ S a w φ A L) (c:Ctx P cl n ops tab b k base its st) {p i:Nat} {o:O} (hx:its[p]?=some (.op i o)) (he:isE o.o=false) (hns:¬ S i) (hup:∀ j,anc b j i=true→S j) :
  ∃ v,bF cl o (eS its st S) A=some (put (eS its st S) o.d v,A)∧∀ d,o.d=some d→(st (p+1)).1 d=v:=by
 have hp:p<its.length:=(List.getElem?_eq_some_iff.1 hx).1
 have env:=c.aTh hx rfl hns hup I.dn
 have hA:isA o.o=false:=(c.src _ (List.mem_of_getElem? hx)).2
 have hgd:gd (eS its st S) o.g=gd (st p).1 o.g:=aCO fun t ht=>env t (by simp[O.ts,It.o,ht])
 have hts:∀ t∈o.o.ts,eS its st S t=(st p).1 t:=fun t ht=>env t (by simp[O.ts,It.o,ht])
 have hr:bF cl o (st p).1 (st p).2=some (st (p+1)):=c.run p _ hx
 unfold bF at hr ⊢
 rw[hgd]
 split at hr
 ·cases hr
 ·rename_i hg
  simp only[Option.some.injEq] at hr
  refine ⟨undef,by simp only[hg],fun d hd=>?_⟩
  rw[← hr,hd]
  exact aBn _ _ _
 ·rename_i hg
  obtain ⟨⟨v,g⟩,h3,h4⟩:=Option.map_eq_some_iff.1 hr
  have hact:∀ (e:Env) (h:Hp),act cl e h o.o=opV e h o.o:=fun e h=>by
   unfold act
   split
   ·rename_i e; rw[e] at he; cases he
   ·rename_i e; rw[e] at he; cases he
   ·rfl
  rw[hact] at h3
  have hval:∀ d,o.d=some d→(st (p+1)).1 d=v:=fun d hd=>by rw[← h4,hd]; exact aBn _ _ _
  simp only[hg,hact,aAn hts]
  by_cases hR:isR o.o=true
  ·rcases Nat.lt_or_ge p L with hlt | hge
   ·rcases I.last with h0 | ⟨p₀,y,hp0,hy,hye,hys⟩
    ·omega
    have hne:p≠p₀:=fun e=>by subst e; rw[hx] at hy; cases hy; exact hns hys
    rcases aMT c.res hy hye (.inr ⟨p,by omega,hx,by simp[It.rdr,hR]⟩) with h5 | ⟨r,z,h5,hz,hzr,hzi,hall⟩
    ·exact absurd (I.dn _ hys _ h5) hns
    have hrl:r<its.length:=(List.getElem?_eq_some_iff.1 hz).1
    have hsame:∀ s,L≤s→s≤r→(st s).2=(st L).2:=by
     intro s
     induction s with
     | zero=>intro h _; rw[Nat.le_zero.1 h]
     | succ s ih =>
      intro h1 h2
      rcases Nat.lt_or_ge L (s+1) with hl | hl
      ·have hu:its[s]?=some its[s]:=List.getElem?_eq_getElem (by omega)
       have:=hall s its[s] (by omega) (by omega) hu
       have h7:its[s].eff=false:=by cases h8:its[s]<;>simp_all [It.bH,It.eff]
       have h9:its[s].alc=none:=by cases h8:its[s]<;>simp_all [It.bH,It.alc]
       rw[c.still hu h7 h9]
       exact ih (by omega) (by omega)
      ·rw[show L=s+1 by omega]
    cases z with
    | op i' o'=>cases hzr
    | al i' j' o'=>cases hzr
    | re i' o' =>
     have hoo:o'=o:=by
      have h7:=(c.src _ (List.mem_of_getElem? hz)).1
      have h8:=(c.src _ (List.mem_of_getElem? hx)).1
      simp only[It.i,It.o] at h7 h8 hzi
      rw[hzi,h8] at h7
      cases h7
      rfl
     subst hoo
     have hrr:=c.aVq hx rfl (by simp[It.rdr,hR]) (show p<r by omega) (by omega)
     have hrun:=c.run r _ hz
     simp only[aZ] at hrun
     rw[aCO (e:=(st r).1) (e':=(st p).1) fun t ht=>hrr t (by simp[O.ts,It.o,ht]),hg] at hrun
     simp only[] at hrun
     split at hrun
     case h_2=>cases hrun
     rename_i t v' g' hd hop
     split at hrun
     case isFalse=>cases hrun
     rename_i hvt
     have hvt:=aOi hvt
     have h10:=(aCM hR hop).2 A fun b o hb=>I.inn b o (by rw[← hsame r (by omega) (by omega)]; exact hb)
     rw[aAn (e:=(st r).1) (e':=(st p).1) fun t ht=>hrr t (by simp[O.ts,It.o,ht])] at h10
     refine ⟨v',by rw[h10]; rfl,fun d hd'=>?_⟩
     rw[hd] at hd'
     cases hd'
     rw[hvt]
     refine (c.keep r (by omega) (by omega) fun q u h1 h2 hu huw=>?_).symm
     exact ((aAA (aAB c.pairs (show p<q by omega) hx hu) rfl (aAl huw)).2.2.1 t hd).1 huw
   ·have hor:(∀ (q:Nat) (y:It),q<p→its[q]?=some y→y.eff=true→anc b y.i i=true) ∨
      ∃ (t q:Nat) (z:It),It.mso (.op i o)=some t∧q<p∧its[q]?=some z∧aGw b t (.op i o) z=true∧∀ (r:Nat) (y:It),q<r→r<p→its[r]?=some y→y.eff=false:=by
     cases hm:It.mso (.op i o) with
     | none=>exact .inl fun q y hq hy he=>(aAA (aAB c.pairs hq hy hx) (aBv he) rfl).2.2.2.2.2.2.1 he (by simp[It.rdr,hR]) hm
     | some t =>
      rcases aOm c.mss hx hm with ⟨_,h2⟩ | ⟨_,h1,_⟩ | ⟨q,z,h1,h2,h3,h4⟩
      ·exact .inl h2
      ·simp at h1
      ·exact .inr ⟨t,q,z,rfl,h1,h2,h3,h4⟩
    rcases hor with hor | ⟨t,q,z,hm,hqp,hz,hmk,hne⟩
    case inr =>
     obtain ⟨dd,rfl⟩:∃ dd,o=⟨dd,none,.ms (.t t)⟩:=by
      unfold It.mso at hm
      split at hm
      ·rename_i h9
       cases hm
       cases h9
       exact ⟨_,rfl⟩
      ·cases hm
     unfold aGw at hmk
     split at hmk
     case h_2=>cases hmk
     rename_i i' j' t' n' z' ps'
     simp only[Bool.and_eq_true,beq_iff_eq] at hmk
     obtain ⟨rfl,hanc⟩:=hmk
     have hLq:L≤q:=by
      rcases I.last with h0 | ⟨p₀,y,hp0,hy,hye,hys⟩
      ·omega
      ·rcases Nat.lt_or_ge q L with hlt | hge'
       ·exfalso
        rcases Nat.lt_or_ge q p₀ with h6 | h6
        ·rw[hne p₀ y h6 (by omega) hy] at hye
         cases hye
        ·have:q=p₀:=by omega
         subst this
         rw[hz] at hy
         cases hy
         cases hye
       ·exact hge'
     have hSi:S i':=hup _ hanc
     rcases c.made hz with ⟨h6,_⟩ | ⟨r,h6,h7,h8⟩
     ·cases h6
     have h9:=I.als q i' j' _ hLq hz hSi h6 r h7
     simp only[opA] at h7
     obtain ⟨cs,_,h7⟩:=Option.map_eq_some_iff.1 h7
     have hkeep:(st p).1 t'=(st (q+1)).1 t':=c.keep p (by omega) (by omega) fun r' y h1 h2 hy hyw =>
      ((aAA (aAB c.pairs (show q<r' by omega) hz hy) rfl (aAl hyw)).2.2.1 t' rfl).1 hyw
     rw[h8] at hkeep
     rw[← h7] at hkeep h9
     have hkeep:(st p).1 t' = .slice (some ⟨base+j',0,none⟩) n' n':=by rw[hkeep]; exact aBn _ _ _
     have hop:∀ H:Hp,H.get (base+j')=some (.cells false cs)→opV (st p).1 H (.ms (.t t'))=some (.slice (some ⟨base+j',0,none⟩) n' n',H):=fun H hH=>by
      simp only[opV,X.ev,hkeep,hH]
     have hvv:v = .slice (some ⟨base+j',0,none⟩) n' n':=by
      simp only[opV,X.ev,hkeep] at h3
      split at h3
      ·cases h3; rfl
      ·cases h3
     refine ⟨v,?_,hval⟩
     rw[hop A h9,hvv]
     rfl
    have hh:=I.aSM c hx rfl hor hup hge
    have ht:aIj o.o=true:=by
     have:=c.item _ (List.mem_of_getElem? hx)
     simp only[aCp,Bool.and_eq_true] at this
     exact aAr this.1.2 (by simp[It.rdr,hR])
    rw[← aAn hts] at h3
    have h11:=aFo hR ht (fun t=>⟨_,I.er t⟩) h3 A hh
    rw[aAn hts] at h11
    exact ⟨v,by rw[h11]; rfl,hval⟩
  ·exact ⟨v,by rw[(aB3 he hA (by simpa using hR) h3).2 A]; rfl,hval⟩
theorem aCs.step {Q:Exit→Act→World→Prop} (I:aCs b base its st φ₀ h₀ w₀ a₀ S a w φ A L) (c:Ctx P cl n ops tab b k base its st) (hr₀:HR φ₀ h₀ w₀) (hb₀:h₀.next≤base) (hn:n≤a₀.tmps.size) {i:Nat} (hi:i<ops.size) (hns:¬ S i)
  (hup:∀ j,anc b j i=true→S j):wpOp P ops Q i (fun a w=>∃ φ A L,aCs b base its st φ₀ h₀ w₀ a₀ (fun k=>S k∨k=i) a w φ A L) a w:=by
 obtain ⟨x,hxm,hre,hxi⟩:=c.cover i hi
 obtain ⟨p,hpl,hpx⟩:=List.getElem_of_mem hxm
 have hx:its[p]?=some x:=by rw[List.getElem?_eq_getElem hpl,hpx]
 subst hxi
 obtain ⟨oper,hop,hco⟩:=aEI c.tabs (c.src x hxm).1
 rw[Array.getElem?_toList] at hop
 unfold wpOp
 rw[hop]
 simp only[]
 have hna:n≤a.tmps.size:=by rw[I.size]; exact hn
 have dn':∀ k,(S k∨k=x.i)→∀ i,anc b i k=true→(S i∨i=x.i):=fun k hk i hi=>by
  rcases hk with hk | hk
  ·exact .inl (I.dn k hk i hi)
  ·subst hk; exact .inl (hup i hi)
 have env:=c.aTh hx hre hns hup I.dn
 have hgd:gd (eS its st S) x.o.g=gd (st p).1 x.o.g:=aCO fun t ht=>env t (by simp[O.ts,ht])
 have hts:∀ t∈x.o.o.ts,eS its st S t=(st p).1 t:=fun t ht=>env t (by simp[O.ts,ht])
 suffices hmain:if Region.wanted oper (yielded ops a.tmps) then oper.wp P a w (fun a w=>∃ φ A L,aCs b base its st φ₀ h₀ w₀ a₀ (fun k=>S k∨k=x.i) a w φ A L) Q
   else (fun a w=>∃ φ A L,aCs b base its st φ₀ h₀ w₀ a₀ (fun k=>S k∨k=x.i) a w φ A L) (a.put oper.dst undef) w by
  split
  ·rename_i hw; rw[if_pos hw] at hmain; exact .inl hmain
  ·rename_i hw; rw[if_neg hw] at hmain; exact hmain
 have quiet:x.eff=false→(∀ j i o,x = .al i j o→gd (st p).1 o.g=some false)→∀ v,(∀ d,x.o.d=some d→(st (p+1)).1 d=v)→bF cl x.o (eS its st S) A=some (put (eS its st S) x.o.d v,A) →
   if Region.wanted oper (yielded ops a.tmps) then oper.wp P a w (fun a w=>∃ φ A L,aCs b base its st φ₀ h₀ w₀ a₀ (fun k=>S k∨k=x.i) a w φ A L) Q
   else (fun a w=>∃ φ A L,aCs b base its st φ₀ h₀ w₀ a₀ (fun k=>S k∨k=x.i) a w φ A L) (a.put oper.dst undef) w:=by
  intro hne hal v hval hrun
  refine aDv c.hcl hco hrun I.er I.ext.hr hna fun φ' a' w' hext he' hs hd=>⟨φ',A,L,?_⟩
  refine ⟨I.ext.trans hr₀ hext I.le,I.le,by rw[c.aD6 hx hre hval]; exact he',hs.trans I.size,hd.trans I.defers,dn',I.lL,I.last.imp id fun ⟨q,y,h1,h2,h3,h4⟩=>⟨q,y,h1,h2,h3,.inl h4⟩,?_,I.next,I.inn,?_,?_⟩
  ·intro q y hq hy he hs
   rcases hs with hs | hs
   ·exact I.noE q y hq hy he hs
   ·have:=c.uniq hy hx (aBv he) hre hs
    subst this
    rw[hx] at hy
    cases hy
    rw[hne] at he
    cases he
  ·intro q i j o hq hy hs hg r hr
   rcases hs with hs | hs
   ·exact I.als q i j o hq hy hs hg r hr
   ·have:=c.uniq hy hx rfl hre hs
    subst this
    rw[hx] at hy
    cases hy
    rw[hal j i o rfl] at hg
    cases hg
  ·intro q i j o hy hs
   have h1:=I.res q i j o hy fun h=>hs (.inl h)
   have h2:=c.nexts L I.lL
   have h3:=c.alk hy
   rw[← I.next] at h2
   exact ⟨h1.1,by rw[hext.still (.refl _) (by omega)]; exact h1.2⟩
 cases x with
 | re i o=>cases hre
 | al i j o =>
  rcases c.made hx with ⟨hg,h1⟩ | ⟨r,hg,hr,h1⟩
  ·refine quiet rfl (fun j' i' o' e=>by cases e; exact hg) undef (fun d hd=>?_) ?_
   ·have hd':o.d=some d:=hd
    rw[h1,hd']; exact aBn _ _ _
   ·unfold bF
    rw[hgd,show (It.al i j o).o=o from rfl,hg]
  ·have hM:=(c.src _ hxm).2
   obtain ⟨hAo,g,hgo,hga⟩:=hM
   simp only[It.i] at hop
   rw[hop] at hgo
   cases hgo
   have hres:=I.res p i j o hx hns
   have h2:=c.nexts L I.lL
   have h3:=c.alk hx
   rw[← I.next] at h2
   refine aIp (id:=base+j) (ob:=r.2) (v:=r.1) hco hga (.held (base+j) (by omega) hres.1 hres.2) (by rw[hgd]; exact hg) (by rw[aG4 hts]; exact hr) I.er I.ext.hr hna fun φ' a' w' hext he' hs hd=>⟨φ',A.put (base+j) (some r.2),L,?_⟩
   have hget:∀ c,c≠base+j→(A.put (base+j) (some r.2)).get c=A.get c:=fun c hc=>by simp[Hp.put,hc]
   have hself:(A.put (base+j) (some r.2)).get (base+j)=some r.2:=by
    have hlt:base+j<A.next:=by omega
    simp[Hp.put,hlt]
   refine ⟨I.ext.trans hr₀ hext I.le,⟨I.le.1,fun c hc h0=>?_⟩,?_,hs.trans I.size,hd.trans I.defers,dn',I.lL,I.last.imp id fun ⟨q,y,h1,h2,h3,h4⟩=>⟨q,y,h1,h2,h3,.inl h4⟩,?_,I.next,?_,?_,?_⟩
   ·rw[hget c (by omega)]; exact I.le.2 c hc h0
   ·rw[c.aD6 hx hre (v:=r.1) fun d hd=>by rw[h1,show o.d=some d from hd]; exact aBn _ _ _]
    exact he'
   ·intro q y hq hy he hs
    rcases hs with hs | hs
    ·exact I.noE q y hq hy he hs
    ·have:=c.uniq hy hx (aBv he) hre hs
     subst this
     rw[hx] at hy
     cases hy
     cases he
   ·intro c o' hc
    have:=I.inn c o' hc
    by_cases e:c=base+j
    ·subst e; rw[hres.1] at this; cases this
    ·rw[hget c e]; exact this
   ·intro q i' j' o' hq hy hs hg' r' hr'
    by_cases e:q=p
    ·subst e
     rw[hx] at hy
     cases hy
     rw[hr] at hr'
     cases hr'
     exact hself
    ·have hj:j'≠j:=fun ej=>by
      rcases Nat.lt_or_ge q p with hl | hl
      ·exact (aAA (aAB c.pairs hl hy hx) rfl rfl).2.2.2.2.2.2.2 j' rfl (by rw[ej]; rfl)
      ·exact (aAA (aAB c.pairs (show p<q by omega) hx hy) rfl rfl).2.2.2.2.2.2.2 j rfl (by rw[ej]; rfl)
     rw[hget _ (by omega)]
     refine I.als q i' j' o' hq hy (hs.resolve_right fun ei=>e ?_) hg' r' hr'
     exact c.uniq hy hx rfl rfl ei
   ·intro q i' j' o' hy hs
    have hq:=I.res q i' j' o' hy fun h=>hs (.inl h)
    have hj:j'≠j:=fun ej=>by
     have e:q≠p:=fun e=>by subst e; rw[hx] at hy; cases hy; exact hs (.inr rfl)
     rcases Nat.lt_or_ge q p with hl | hl
     ·exact (aAA (aAB c.pairs hl hy hx) rfl rfl).2.2.2.2.2.2.2 j' rfl (by rw[ej]; rfl)
     ·exact (aAA (aAB c.pairs (show p<q by omega) hx hy) rfl rfl).2.2.2.2.2.2.2 j rfl (by rw[ej]; rfl)
    have h5:=c.alk hy
    refine ⟨by rw[hget _ (by omega)]; exact hq.1,?_⟩
    rcases hext.old (base+j') (by omega) with h6 | ⟨_,_,h6⟩
    ·rw[h6]; exact hq.2
    ·rw[hget _ (by omega),hq.1] at h6; cases h6
 | op i o =>
  cases he:isE o.o with
  | false =>
   obtain ⟨v,hrun,hval⟩:=I.calm c hx he hns hup
   exact quiet (by simp[It.eff,he]) (fun j' i' o' e=>by cases e) v hval hrun
  | true =>
   have heff:(It.op i o).eff=true:=by simp[It.eff,he]
   have hL:L≤p:=by
    rcases I.last with h0 | ⟨q,y,hq,hy,hye,hys⟩
    ·omega
    ·rcases Nat.lt_trichotomy p q with hl | hl | hl
     ·have:=(aAA (aAB c.pairs hl hx hy) rfl (aBv hye)).2.2.2.2.1 heff hye
      exact absurd (I.dn _ hys _ this) hns
     ·subst hl
      rw[hx] at hy
      cases hy
      exact absurd hys hns
     ·omega
   obtain ⟨hnx,hin⟩:=I.here c hx rfl heff hup hL
   have hle:=c.aLN hx heff
   have hr:bF cl o (st p).1 (st p).2=some (st (p+1)):=c.run p _ hx
   have hrun:∃ v,bF cl o (eS its st S) (st p).2=some (put (eS its st S) o.d v,(st (p+1)).2)∧∀ d,o.d=some d→(st (p+1)).1 d=v:=by
    unfold bF at hr ⊢
    simp only[It.o] at hgd hts
    rw[hgd,aGr hts]
    split at hr
    ·cases hr
    ·rename_i hg
     simp only[Option.some.injEq] at hr
     refine ⟨undef,by simp only[hg,← hr],fun d hd=>?_⟩
     rw[← hr,hd]
     exact aBn _ _ _
    ·rename_i hg
     obtain ⟨⟨v,g⟩,h3,h4⟩:=Option.map_eq_some_iff.1 hr
     refine ⟨v,by simp only[hg,h3,Option.map_some,← h4],fun d hd=>?_⟩
     rw[← h4,hd]
     exact aBn _ _ _
   obtain ⟨v,hrun,hval⟩:=hrun
   refine aDv c.hcl hco hrun I.er (I.ext.hr.less (by rw[hnx]; exact Nat.le_refl _) hin) hna fun φ' a' w' hext he' hs hd=>?_
   have hnn:A.next≤(st (p+1)).2.next:=by rw[← hnx]; exact hle.1
   have hmle:=merge_le (A:=A) (G:=(st p).2) (G':=(st (p+1)).2) hin hnx hle hnn
   refine ⟨φ',merge A (st p).2 (st (p+1)).2 hnn,p+1,?_⟩
   have hfr:=Ext.frames I.ext.hr hin hnx hext hle hnn
   have hkeep:∀ q i' j' o',p<q→its[q]?=some (.al i' j' o')→(merge A (st p).2 (st (p+1)).2 hnn).get (base+j')=A.get (base+j'):=fun q i' j' o' hq hy=>by
    have h1:=c.resv hy (p+1) (by omega)
    have h2:=c.resv hy p (by omega)
    simp[merge,h1,h2]
   refine ⟨I.ext.trans hr₀ hfr I.le,I.le.trans hmle,by rw[c.aD6 hx rfl hval]; exact he',hs.trans I.size,hd.trans I.defers,dn',by omega,.inr ⟨p,_,rfl,hx,heff,.inr rfl⟩,?_,rfl,?_,?_,?_⟩
   ·intro q y hq hy hye hs
    rcases hs with hs | hs
    ·exact I.noE q y (by omega) hy hye hs
    ·have:=c.uniq hy hx (aBv hye) rfl hs
     omega
   ·intro c' o' hc
    simp only[merge,hc]
   ·intro q i' j' o' hq hy hs hg' r' hr'
    rw[hkeep q i' j' o' (by omega) hy]
    refine I.als q i' j' o' (by omega) hy (hs.resolve_right fun ei=>?_) hg' r' hr'
    have:=c.uniq hy hx rfl rfl ei
    omega
   ·intro q i' j' o' hy hs
    have hq:=I.res q i' j' o' hy fun h=>hs (.inl h)
    have h2:=c.nexts p (by omega)
    have h3:=c.alk hy
    have h4:(st p).2.get (base+j')=none:=by
     cases hg:(st p).2.get (base+j') with
     | none=>rfl
     | some z=>have:=hin _ _ hg; rw[hq.1] at this; cases this
    have h5:=hle.2 (base+j') (by omega) h4
    refine ⟨?_,?_⟩
    ·simp only[merge,h5,h4,if_true]; exact hq.1
    ·rw[hext.still hle (by omega)]; exact hq.2
end
section
variable {P:Program} {cl:Nat→Sp} {n:Nat} {ops:Array Oper} {tab:List O} {b:Array Nat} {k base:Nat} {its:List It} {st:Nat→Env×Hp}
variable {φ φ' φ₀:Phi} {e e':Env} {a a₀:Act} {A h h' h₀:Hp} {w w' w₀:World} {v:Value} {L:Nat}
def sS (listed:Array Bool) (k:Nat):Prop:=listed.getD k false=true
def unl (listed:Array Bool):Nat:=listed.toList.countP (! ·)
theorem aJ5 {b:Array Nat} {i k:Nat} (h:anc b i k=true):i<k:=by simp[anc] at h; exact h.1
theorem Ctx.edges (c:Ctx P cl n ops tab b k base its st) {i:Nat} {o:Oper} (ho:ops[i]?=some o):(∀ e∈o.after,Region.binds .any e=true→e.on<i) ∧
  ∀ j,anc b j i=true→∃ e∈o.after,Region.binds .any e=true∧(e.on=j∨anc b j e.on=true):=by
 have hi:i<ops.size:=(Array.getElem?_eq_some_iff.1 ho).1
 have h:=List.all_eq_true.1 c.close i (List.mem_range.2 hi)
 rw[ho] at h
 simp only[Bool.and_eq_true,List.all_eq_true] at h
 refine ⟨fun e he hb=>aJ5 (aAr (h.1 e (Array.mem_toList_iff.2 he)) hb),fun j hj=>?_⟩
 have hji:=aJ5 hj
 have:=aAr (h.2 j (List.mem_range.2 (by omega))) hj
 obtain ⟨e,he,h2⟩:=List.any_eq_true.1 this
 simp only[Bool.and_eq_true,Bool.or_eq_true,beq_iff_eq] at h2
 exact ⟨e,Array.mem_toList_iff.1 he,h2.1,h2.2.imp id (·.1)⟩
theorem Ctx.ready (c:Ctx P cl n ops tab b k base its st) {listed:Array Bool} (hs:listed.size=ops.size):∀ i,i<ops.size→¬ sS listed i→Region.ready .any ops listed≠[]:=by
 intro i
 induction i using Nat.strongRecOn with
 | ind i ih =>
  intro hi hns
  have ho:ops[i]?=some ops[i]:=Array.getElem?_eq_getElem hi
  by_cases hall:∀ e∈ops[i].after,Region.binds .any e=true→listed.getD e.on false=true
  ·have:i∈Region.ready .any ops listed:=mem_ready.2 ⟨by
    have hl:i<listed.size:=by omega
    simp only[sS,Array.getD_eq_getD_getElem?,Array.getElem?_eq_getElem hl,Option.getD_some] at hns ⊢
    simpa using hns,_,ho,hall⟩
   intro hn
   rw[hn] at this
   cases this
  ·simp only[Classical.not_forall] at hall
   obtain ⟨e,he,hb,hl⟩:=hall
   have hlt:=(c.edges ho).1 e he hb
   exact ih e.on hlt (by omega) hl
theorem aOA {listed:Array Bool} {i:Nat} (hi:i<listed.size):sS (listed.setIfInBounds i true)=fun k=>sS listed k∨k=i:=by
 funext k
 simp only[sS]
 by_cases hk:k=i
 ·subst hk
  simp[hi]
 ·rw[getD_set_ne false fun e=>hk e.symm]
  simp[hk]
theorem aKn {listed:Array Bool} {i:Nat} (hi:i<listed.size) (h:¬ sS listed i):unl (listed.setIfInBounds i true)+1=unl listed:=by
 have hg:listed[i]=false:=by
  simpa[sS,Array.getD_eq_getD_getElem?,Array.getElem?_eq_getElem hi] using h
 have key:∀ (l:List Bool) (i:Nat) (hi:i<l.length),l[i]=false→(l.set i true).countP (! ·)+1=l.countP (! ·):=by
  intro l
  induction l with
  | nil=>intro i hi; simp at hi
  | cons y l ih =>
   intro i hi hy
   cases i with
   | zero=>simp at hy; subst hy; simp
   | succ i =>
    have:=ih i (by simpa using hi) (by simpa using hy)
    simp only[List.set_cons_succ,List.countP_cons]
    omega
 unfold unl
 rw[Array.toList_setIfInBounds]
 exact key _ i (by simpa using hi) (by simpa using hg)
theorem aIn {listed:Array Bool} (h:unl listed=0) {i:Nat} (hi:i<listed.size):sS listed i:=by
 have:=List.countP_eq_zero.1 h listed[i] (Array.getElem_mem_toList hi)
 simpa[sS,Array.getD_eq_getD_getElem?,Array.getElem?_eq_getElem hi] using this
theorem aMC {listed:Array Bool} (h:unl listed≠0):∃ i,i<listed.size∧¬ sS listed i:=by
 refine Classical.byContradiction fun hn=>h (List.countP_eq_zero.2 fun x hx=>?_)
 obtain ⟨i,hi,rfl⟩:=List.getElem_of_mem hx
 have hi':i<listed.size:=by simpa using hi
 have:=Classical.byContradiction fun hs=>hn ⟨i,hi',hs⟩
 simpa[sS,Array.getD_eq_getD_getElem?,Array.getElem?_eq_getElem hi'] using this
theorem aOU {Q:Exit→Act→World→Prop} (c:Ctx P cl n ops tab b k base its st) (hr₀:HR φ₀ h₀ w₀) (hb₀:h₀.next≤base) (hn:n≤a₀.tmps.size)
  (hK:Then φ₀ h₀ w₀ (st its.length).1 (st its.length).2 a₀ (Q .normal)):∀ (fuel:Nat) (listed:Array Bool) (a:Act) (w:World),listed.size=ops.size→unl listed=fuel →
  (∃ φ A L,aCs b base its st φ₀ h₀ w₀ a₀ (sS listed) a w φ A L)→wpAny P .any ops Q fuel listed a w:=by
 intro fuel
 induction fuel with
 | zero =>
  intro listed a w hs hu hI
  have hall:∀ i,i<ops.size→sS listed i:=fun i hi=>aIn hu (by omega)
  refine ⟨?_,?_⟩
  ·rw[List.eq_nil_iff_forall_not_mem]
   intro j hj
   obtain ⟨h1,o,ho,_⟩:=mem_ready.1 hj
   have hj':j<ops.size:=(Array.getElem?_eq_some_iff.1 ho).1
   have:=hall j hj'
   have hl:j<listed.size:=by omega
   simp only[sS,Array.getD_eq_getD_getElem?,Array.getElem?_eq_getElem hl,Option.getD_some] at this h1
   rw[this] at h1
   cases h1
  ·obtain ⟨φ,A,L,I⟩:=hI
   have hS:∀ x∈its,sS listed x.i:=fun x hx=>by
    obtain ⟨oper,h1,_⟩:=aEI c.tabs (c.src x hx).1
    rw[Array.getElem?_toList] at h1
    exact hall _ (Array.getElem?_eq_some_iff.1 h1).1
   obtain ⟨h1,h2⟩:=c.upto I.next I.inn its.length I.lL (Nat.le_refl _) (fun q x hq _ hx=>by
     cases he:x.eff with
     | false=>rfl
     | true=>exact absurd (hS x (List.mem_of_getElem? hx)) (I.noE q x hq hx he))
    (fun q i j o hq _ hx hg r hr=>I.als q i j o hq hx (hS _ (List.mem_of_getElem? hx)) hg r hr)
   have hE:eS its st (sS listed)=(st its.length).1:=by
    funext t
    unfold eS
    split
    ·rfl
    ·rename_i hh
     refine (c.keep its.length (Nat.zero_le _) (Nat.le_refl _) fun r y _ _ hy hyw=>hh ⟨r,y,hy,hyw,hS y (List.mem_of_getElem? hy)⟩).symm
   exact hK φ a w (I.ext.less (by rw[h1]; exact Nat.le_refl _) h2 I.le) (hE▸I.er) I.size I.defers
 | succ fuel ih =>
  intro listed a w hs hu hI
  refine ⟨fun hnil=>?_,fun i hi=>?_⟩
  ·obtain ⟨i,h1,h2⟩:=aMC (listed:=listed) (by omega)
   exact absurd hnil (c.ready hs i (by omega) h2)
  ·obtain ⟨h1,o,ho,h2⟩:=mem_ready.1 hi
   have hi':i<ops.size:=(Array.getElem?_eq_some_iff.1 ho).1
   have hl:i<listed.size:=by omega
   have hns:¬ sS listed i:=by
    simp only[sS,Array.getD_eq_getD_getElem?,Array.getElem?_eq_getElem hl,Option.getD_some] at h1 ⊢
    simp[h1]
   obtain ⟨φ,A,L,I⟩:=hI
   refine wpOp_mono (fun a w hI'=>ih _ a w (by simpa using hs) (by have:=aKn hl hns; omega) (by rw[aOA hl]; exact hI')) (I.step c hr₀ hb₀ hn hi' hns fun j hj=>?_)
   obtain ⟨e,he,hb,hj'⟩:=(c.edges ho).2 j hj
   have hS:sS listed e.on:=h2 e he hb
   rcases hj' with rfl | hj'
   ·exact hS
   ·exact I.dn _ hS _ hj'
theorem aEh (P:Program) (n:Nat):aIy P n (aAJ P n):=by
 intro cl hcl ops k l hany id e e' h h' a w φ Q hrun he hr hn hK
 unfold aAJ at hany
 split at hany
 case isFalse=>cases hany
 rename_i hm
 obtain ⟨tab,htab,hany⟩:=Option.bind_eq_some_iff.1 hany
 simp only[] at hany
 have hany:∃ rd,aE3 n ops tab (Region.before ops) rd=some (k,l):=by
  split at hany
  ·rename_i h9
   cases hany
   exact ⟨_,h9⟩
  ·exact ⟨_,hany⟩
 obtain ⟨rd,hany⟩:=hany
 unfold aE3 at hany
 obtain ⟨r,hmk,hany⟩:=Option.bind_eq_some_iff.1 hany
 split at hany
 case isFalse=>cases hany
 rename_i hok
 cases hany
 simp only[aNi,Bool.and_eq_true,List.all_eq_true] at hok
 obtain ⟨⟨⟨⟨⟨h1,h0⟩,h2⟩,h3⟩,h4⟩,h5⟩:=hok
 obtain ⟨st,s0,s1,s2⟩:=aFC hrun
 have c:Ctx P cl n ops tab (Region.before ops) k h.next l st:={
  hcl:=hcl
  tabs:=htab
  src:=made _ _ _ _ hmk
  close:=h1
  pairs:=h2
  mss:=h0
  res:=h3
  item:=h4
  cover:=fun i hi=>by
   obtain ⟨x,hx,h6⟩:=List.any_eq_true.1 (h5 i (List.mem_range.2 hi))
   simp only[Bool.and_eq_true,Bool.not_eq_true',beq_iff_eq] at h6
   exact ⟨x,hx,h6⟩
  run:=s2
  free:=fun j hj=>by rw[s0]; exact h.wf _ (Nat.le_add_right _ _)
  next:=by rw[s0]; exact Nat.le_refl _ }
 refine wp_region_any hm ?_
 have hrr:HR φ h { w with drawn:=w.drawn+1 }:=hr.drew _
 refine aOU c hrr (Nat.le_refl _) hn (by rw[s1]; exact hK.drew _) ops.size _ a _ (by simp) ?_ ⟨φ,h.adv k,0,?_⟩
 ·simp only[unl,Array.toList_replicate]
  rw[List.countP_replicate]
  simp
 ·have hempty:∀ i,¬ sS (Array.replicate ops.size false) i:=fun i=>by
   simp only[sS,Array.getD_eq_getD_getElem?,Array.getElem?_replicate]
   split<;>simp
  refine ⟨(Ext.refl hrr).less (by simp[Hp.adv]) (fun b o hb=>hb) (.refl _),Le.adv h k,?_,rfl,rfl,fun k hk=>absurd hk (hempty k),Nat.zero_le _,.inl rfl,fun q x _ _ _=>hempty _,by rw[s0],fun b o hb=>by rw[s0] at hb; exact hb,fun q i j o _ _ hs=>absurd hs (hempty _),fun q i j o hx _=>⟨?_,?_⟩⟩
  ·have:eS l st (sS (Array.replicate ops.size false))=e:=by
    funext t
    unfold eS
    rw[if_neg fun ⟨q,x,_,_,hs⟩=>hempty _ hs,s0]
   rw[this]
   exact he
  ·exact h.wf _ (Nat.le_add_right _ _)
  ·exact hr.fresh _ (Nat.le_add_right _ _)
theorem aCF {T:Nat→Option Fn} (hT:aBG P (aAJ P) T) (n:Nat) (f:Nat):aV P f (aW T n f):=aHn (fun n=>aEh P n) hT n f
end
end Go.Dx
