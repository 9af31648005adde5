/- A text of this claim. -/
import Derived.Test.YtoiiphcbkejliaaGreatNc0
import Derived.KernelRfl
set_option linter.unusedSimpArgs false
set_option linter.unusedVariables false
namespace Go.Dx
open Go
@[simp] theorem aSa:({ data:={ toList:=[] } }:ByteArray)=ByteArray.empty:=rfl
def aV1 (P:Program) (H:List (List Nat)) (n:Nat) (ops:Array Oper):Option (Nat×List It) :=
 (ops.toList.mapM (aCX P n ops)).bind fun tab=>aCl ops tab 0 (match H.find? fun l=>l.head? == (ops[0]?).bind (·.dst) with
  | some (_::l)=>l.map fun x=>(x / 2,x%2 == 1)
  | _=>(List.range tab.length).map fun i=>(i,false))
structure Cx (P:Program) (n:Nat) where
 c:C
 r:List RV
 h:aD5 P (aAJ P) n=some (c,r)
def hF (Q:Program) (H:List (List Nat)) (fn:Func):Option (C×List RV):=match fn.body with
 | some c=>(aBV Q fn.ntmps (aV1 Q H fn.ntmps) c).bind fun c=>(fn.results.toList.mapM (aGU Q)).map fun r=>(c,r)
 | none=>none
def dm:Func:={ name := "", origin := "", params := #[],resultTypes := #[],nfree:=0,ntmps:=0,results := #[],body:=some .ret,norace:=false,file := "", endLine:=0,tmpNames := #[] }
theorem tH (Q:Program) (f:Func) (H:List (List Nat)) {c:C} {r:List RV} (h:hF Q H f=some (c,r):=by conv=>lhs; cbv):hF Q H f=some (c,r):=h
theorem uH {Q:Program} {f:Func} {H:List (List Nat)} {c:C} {r:List RV} (P:Program) (n:Nat) (_:hF Q H f=some (c,r)) (h:aD5 P (aAJ P) n=some (c,r):=by kernel_rfl):aD5 P (aAJ P) n=some (c,r):=h
def TT (P:Program) (sp:Nat→Option Sp) (n:Nat):Option Fn:=match sp n with
 | some s=>some (.spec s)
 | none=>(aD5 P (aAJ P) n).map fun r => .code ⟨r.1,r.2,some []⟩
def kid:C→Nat→C
 | .seq a b,k=>if k=0 then a else b
 | .cond _ a b,k=>if k=0 then a else b
 | .block _ a,_=>a
 | .loop a,_=>a
 | _,_ => .skip
def sub (b:C) (p:Nat):C:=if h:p≤1 then b else kid (sub b (p / 2)) (p%2)
termination_by p
decreasing_by omega
def ct (st:List Nat) (k:Nat→C):Nat→C→C
 | p,c=>if st.contains p then k p else match c with
  | .seq a b => .seq (ct st k (2*p) a) (ct st k (2*p+1) b)
  | .cond x a b => .cond x (ct st k (2*p) a) (ct st k (2*p+1) b)
  | .block i a => .block i (ct st k (2*p) a)
  | .loop a => .loop (ct st k (2*p) a)
  | c=>c
section
variable {P:Program} {sp:Nat→Option Sp} {n p:Nat} {st:List Nat}
theorem aMR (H:∀ n s,sp n=some s→aV P n s):aBG P (aAJ P) (TT P sp):=fun f x e=>by
 unfold TT at e
 cases hs:sp f with
 | some s=>rw[hs] at e; cases e; exact H f s hs
 | none =>
  rw[hs] at e
  obtain ⟨r,h1,h2⟩:=Option.map_eq_some_iff.1 e
  cases h2
  exact h1
theorem aB (x:Cx P n) (hs:sp n=none):TT P sp n=some (.code ⟨x.c,x.r,some []⟩):=by
 unfold TT
 rw[hs,x.h]
 rfl
theorem aAm {b:C} (hp:1≤p) (k:Nat) (hk:k<2):sub b (2*p+k)=kid (sub b p) k:=by
 rw[sub,dif_neg (by omega)]
 congr 1
 ·congr 1; omega
 ·omega
theorem aEv {b:C} {k:Nat→C} (hk:∀ q,k q=sub b q):∀ (c:C) (p:Nat),1≤p→c=sub b p→ct st k p c=c:=by
 intro c
 induction c with
 | seq a d iha ihd =>
  intro p hp hc
  rw[ct]
  split
  ·rw[hk,← hc]
  ·simp only[iha (2*p) (by omega) (by have:=aAm (b:=b) hp 0 (by omega); rw[← hc] at this; exact this.symm),ihd (2*p+1) (by omega) (by have:=aAm (b:=b) hp 1 (by omega); rw[← hc] at this; exact this.symm)]
 | cond x a d iha ihd =>
  intro p hp hc
  rw[ct]
  split
  ·rw[hk,← hc]
  ·simp only[iha (2*p) (by omega) (by have:=aAm (b:=b) hp 0 (by omega); rw[← hc] at this; exact this.symm),ihd (2*p+1) (by omega) (by have:=aAm (b:=b) hp 1 (by omega); rw[← hc] at this; exact this.symm)]
 | block i a iha =>
  intro p hp hc
  rw[ct]
  split
  ·rw[hk,← hc]
  ·simp only[iha (2*p) (by omega) (by have:=aAm (b:=b) hp 0 (by omega); rw[← hc] at this; exact this.symm)]
 | loop a iha =>
  intro p hp hc
  rw[ct]
  split
  ·rw[hk,← hc]
  ·simp only[iha (2*p) (by omega) (by have:=aAm (b:=b) hp 0 (by omega); rw[← hc] at this; exact this.symm)]
 | _ =>
  intro p hp hc
  unfold ct
  split
  ·rw[hk,← hc]
  ·rfl
theorem gX {P:Program} {n:Nat} (x:Cx P n) (p:Nat) (st:List Nat) {F:(Nat→C)→C} (h:∀ k,(match sub x.c p with
  | .seq a b => .seq (ct st k (2*p) a) (ct st k (2*p+1) b)
  | .cond v a b => .cond v (ct st k (2*p) a) (ct st k (2*p+1) b)
  | .block i a => .block i (ct st k (2*p) a)
  | .loop a => .loop (ct st k (2*p) a)
  | c=>c)=F k:=by intro k; conv=>lhs; cbv) (hp:1≤p:=by decide) ⦃T:Nat→Option Fn⦄ ⦃Q:Ex→Env→Hp→Prop⦄ ⦃K:List Fr⦄ ⦃e:Env⦄ ⦃g:Hp⦄:G T Q (sub x.c p) K e g↔G T Q (F (sub x.c)) K e g:=by
 have e1:sub x.c p=F (sub x.c):=by
  rw[← h (sub x.c)]
  have k0:=aAm (b:=x.c) hp 0 (by omega)
  have k1:=aAm (b:=x.c) hp 1 (by omega)
  cases hc:sub x.c p with
  | seq a b =>
   rw[hc] at k0 k1
   simp only[aEv (st:=st) (b:=x.c) (k:=sub x.c) (fun _=>rfl) a (2*p) (by omega) k0.symm,aEv (st:=st) (b:=x.c) (k:=sub x.c) (fun _=>rfl) b (2*p+1) (by omega) k1.symm]
  | cond v a b =>
   rw[hc] at k0 k1
   simp only[aEv (st:=st) (b:=x.c) (k:=sub x.c) (fun _=>rfl) a (2*p) (by omega) k0.symm,aEv (st:=st) (b:=x.c) (k:=sub x.c) (fun _=>rfl) b (2*p+1) (by omega) k1.symm]
  | block i a =>
   rw[hc] at k0
   simp only[aEv (st:=st) (b:=x.c) (k:=sub x.c) (fun _=>rfl) a (2*p) (by omega) k0.symm]
  | loop a =>
   rw[hc] at k0
   simp only[aEv (st:=st) (b:=x.c) (k:=sub x.c) (fun _=>rfl) a (2*p) (by omega) k0.symm]
  | _=>rfl
 rw[← e1]
theorem wX {T:Nat→Option Fn} {x:Cx P n} (hT:T n=some (.code ⟨x.c,x.r,some []⟩)) {r:List RV} (hr:x.r=r:=by conv=>lhs; cbv) ⦃l:List Value⦄ ⦃h:Hp⦄ ⦃q:Value→Hp→Prop⦄:WC T n l h q↔G T (fin r (some []) h.next q) (sub x.c 1) [] (aBW l) h:=by
 subst hr
 rw[show sub x.c 1=x.c by rw[sub]; rfl]
 exact aUd hT
def sin (m:Nat) (s:Sp) (r:Nat→Option Sp):Nat→Option Sp:=fun n=>if n=m then some s else r n
theorem aPF {m:Nat} {s:Sp} {r:Nat→Option Sp} (h:aV P m s) (hr:∀ n s,r n=some s→aV P n s):∀ n s',sin m s r n=some s'→aV P n s':=fun n s' e=>by
 unfold sin at e
 split at e
 ·rename_i h1; subst h1; cases e; exact h
 ·exact hr n s' e
theorem aA {m:Nat} {y:Fn} {T:Nat→Option Fn} {F:F} (h:T n=some (.code F)) (hn:n≠m:=by decide):ins m y T n=some (.code F):=by
 unfold ins
 rw[if_neg hn]
 exact h
end
end Go.Dx
