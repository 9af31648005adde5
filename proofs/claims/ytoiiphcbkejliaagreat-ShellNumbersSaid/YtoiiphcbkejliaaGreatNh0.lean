/- A text of this claim. -/
import Derived.Test.YtoiiphcbkejliaaGreatNg0
import Derived.WalkKit
import Derived.ProofKit
import Derived.OpenShut
import Derived.JoinedCond
import Derived.Below
import Derived.ChangeSame
import Derived.Deep.Fields
import Derived.ChangeCalls
set_option linter.unusedSimpArgs false
set_option linter.unusedVariables false
namespace Go.Dx
open Go Go.RowKit Go.ChangeShapes Go.WideShapes Go.ChangeAt
section
variable {H:Type} {enc:TypeId×Value→H} {P:Program}
theorem aCQ {f:Func} {s:ChangeSpec} {apart fresh handsOn again:Bool} {W W':World} {args:Array Value} {v:Value} {ds gs:List (DataW H)} {before pa pv:List MemPlace}
  (hW:DataW.Whole enc P f.params.toList s.vars apart W args.toList ds gs before)
  (hres:∀ (b:Nat) (sp:Nat→Bool) (hd:Bool),DataW.TrodAll enc P W' b sp hd f.resultTypes.toList (v.resultList f.resultTypes.size) (s.fn H (ds++gs)).results [])
  (hargs:∀ sp:Nat→Bool,(∀ p∈before,sp p.block=true)→DataW.TrodAll enc P W' 0 sp true f.params.toList args.toList (s.fn H (ds++gs)).args pa)
  (hvars:∀ sp:Nat→Bool,(∀ p∈before,sp p.block=true)→DataW.TrodVars enc P W' sp s.vars (s.fn H (ds++gs)).vars pv)
  (hps:before=pa++pv) (hb:Below W.heap.size W W')
  (hok:∀ (j:Nat) (t:TypeId) (r:Value),f.resultTypes[j]?=some t→(v.resultList f.resultTypes.size)[j]?=some r→Value.okWide P W' .any 0 t r) :
  s.post enc P f apart fresh handsOn again W args v W':=by
 have hlt:∀ p∈before,p.block<W.heap.size:=fun p hp=>hW.lt p hp
 have hold:∀ p∈before,(fun b=>decide (b<W.heap.size)) p.block=true:=fun p hp=>by simpa using hlt p hp
 refine ⟨ds,gs,before,[],pa,pv,hW,hres _ _ _,hargs _ hold,hvars _ hold,World.keptBut_mono (fun p hp=>⟨hp,?_⟩) (hb.frame (·∈before)),fun _=>?_⟩
 ·rw[hps,List.mem_append] at hp
  exact Or.inr hp
 ·obtain ⟨_,_,_,_,_,hz,hn⟩:=hW
  refine ⟨hok,_,_,([]++pa)++pv,⟨[]++pa,pv,trodAll_append (hargs _ (fun _ _=>rfl)) (hres _ _ _),hvars _ (fun _ _=>rfl),rfl,?_,?_⟩,?_⟩
  ·intro b off hp
   have hin:MemPlace.cell b off∈before:=by rw[hps]; simpa using hp
   rw[hb.frozen (hlt _ hin)]
   exact hz b off hin
  ·intro ha
   have:=hn ha
   rw[hps] at this
   simpa using this
  ·intro p hp _
   rw[hps]
   simpa using hp
end
theorem aC4 {H:Type} {enc:TypeId×Value→H} {P:Program} {w:World} {spare:Nat→Bool} {gs:List (DataW H)} {ps:List MemPlace} (h:DataW.TrodVars enc P w spare [] gs ps):gs=[]∧ps=[]:=by
 cases gs with
 | nil=>exact ⟨rfl,h⟩
 | cons=>exact h.elim
theorem law_calls {P:Program} {T:Nat→Option Fn} (hT:aBG P (aAJ P) T) {f tb:Nat} {fn:Func} {s:ChangeSpec} {H:Type} {enc:TypeId×Value→H} {W:World} {args:Array Value} {ds gs:List (DataW H)} {before:List MemPlace}
  (hl:laidOutB P=true) (hts:(fn.params.toList.all fun t=>P.readableRec t&&decide (t<P.types.size))=true) (hvars:s.vars=[])
  (hspec:∀ ds:List (DataW H),ds.length=fn.params.toList.length→s.fn H ds={ results:=[.lit (.bool true)],args:=ds })
  (hr:fn.resultTypes = #[tb]) (hb:P.underlying tb=some .bool) (hW:DataW.Whole enc P fn.params.toList s.vars false W args.toList ds gs before)
  (hw:WC T f (args.toList.map (absA W.heap.size)) (absH W) fun v _=>v = .bool true) :
  Calls P f args W fun e W'=>∃ v,e = .returned v∧s.post enc P fn false true false false W args v W':=by
 have hlt:=hW.lt
 have hW':=hW
 obtain ⟨p,q,hA,hV,rfl,hfz,hnd⟩:=hW
 rw[hvars] at hV
 obtain ⟨rfl,rfl⟩:=aC4 hV
 have hs:=hspec ds (Go.trodAll_length hA).2
 refine (law_true hT hw).mono fun e W' ⟨he,hg⟩=>?_
 subst he
 refine ⟨_,rfl,aCQ (pa:=p) (pv:=[]) hW' (fun b sp hd=>?_) (fun sp hsp=>?_) (fun sp _=>?_) rfl hg (ok_one hr rfl (okWide_bool_mk hb _))⟩
 ·rw[List.append_nil,hs,hr]
  exact trodAll_cons_mk (shut_bool hb _) trodAll_mk0
 ·rw[List.append_nil,hs]
  exact aBI hl hg hts hA (fun x hx=>hlt x (List.mem_append_left _ hx)) (fun x hx=>hsp x (List.mem_append_left _ hx))
 ·rw[List.append_nil,hs,hvars]
  exact rfl
inductive Kd where
 | bool
 | int (k:IntKind)
 | str
def Kd.ok:Kd→Value→Prop
 | .bool,v=>∃ b,v = .bool b
 | .int k,v=>∃ n,v = .int k n∧(Lit.int k n).wf=true
 | .str,v=>∃ s,v = .string s∧s.size≤maxLen
def okL:List Kd→List Value→Prop
 | [],[]=>True
 | k::ks,v::vs=>k.ok v∧okL ks vs
 | _,_=>False
def aLo (P:Program) (t:TypeId):Option Kd :=
 match P.underlying t with
 | some .bool=>some .bool
 | some (.int k)=>some (.int k)
 | some .string=>some .str
 | _=>none
section
variable {H:Type} {enc:TypeId×Value→H} {P:Program} {W:World}
theorem aDi {t:TypeId} {k:Kd} (hk:aLo P t=some k) {n:Nat} {cs:List Value} {x:DataW H×List MemPlace} (h:DataW.trod enc P W 0 (fun _=>true) true n t cs=some x):∃ v,cs=[v]∧k.ok v:=by
 unfold aLo at hk
 split at hk<;>cases hk
 ·rename_i hu
  obtain ⟨b,rfl,_⟩:=DataW.trod_bool hu h
  exact ⟨_,rfl,b,rfl⟩
 ·rename_i k hu
  obtain ⟨m,rfl,_,hw⟩:=DataW.trod_int hu h
  exact ⟨_,rfl,m,rfl,hw⟩
 ·rename_i hu
  obtain ⟨s,rfl,_,hw⟩:=DataW.trod_string hu h
  exact ⟨_,rfl,s,rfl,hw⟩
theorem aFy {N:Nat} {k:Kd} {v:Value} (h:k.ok v):aEV N v=v:=by
 cases k with
 | bool=>obtain ⟨b,rfl⟩:=h; rfl
 | int k=>obtain ⟨n,rfl,_⟩:=h; rfl
 | str=>obtain ⟨s,rfl,_⟩:=h; rfl
theorem aFj {N:Nat}:∀ {ks:List Kd} {vs:List Value},okL ks vs→vs.map (aEV N)=vs
 | [],[],_=>rfl
 | _::_,_::_,h=>by rw[List.map_cons,aFy h.1,aFj h.2]
 | [],_::_,h=>h.elim
 | _::_,[],h=>h.elim
theorem aKH:∀ {ks:List Kd} {vs:List Value},vs.length=ks.length→(∀ (i:Nat) k v,ks[i]?=some k→vs[i]?=some v→k.ok v)→okL ks vs
 | [],[],_,_=>trivial
 | k::ks,v::vs,hl,h=>⟨h 0 k v rfl rfl,aKH (by simpa using hl) fun i k v hk hv=>h (i+1) k v (by simpa using hk) (by simpa using hv)⟩
 | [],_::_,hl,_=>by simp at hl
 | _::_,[],hl,_=>by simp at hl
theorem dec_struct {α:Type} {E:Enc α} {t:TypeId} {fs:Array Field} {ks:List Kd} (ht:P.underlying t=some (.struct fs)) (hone:Deep.oneCellFields P fs=true) (hC:P.cellsOf t=fs.size) (hs:fs.size=E.sz)
  (hk:fs.toList.map (fun f=>aLo P f.type)=ks.map some) (hE:∀ vs,okL ks vs→∃ y,E.enc y=vs):Dec enc P W E t:=by
 refine ⟨hC.trans hs,fun n cs x h=>?_⟩
 obtain ⟨ys,m,_,_,hlen,hyl,hf⟩:=DataW.trod_struct ht h
 have hkl:ks.length=fs.size:=by
  have:=congrArg List.length hk
  simpa using this.symm
 have hok:okL ks cs:=aKH (by omega) fun i k v hki hvi=>by
  have hi:i<fs.size:=by have:=(List.getElem?_eq_some_iff.1 hki).1; omega
  have hfi:fs[i]?=some fs[i]:=by simp[hi]
  obtain ⟨ho,hc1⟩:=Deep.hone_of hone i _ hfi
  have h1:=hf i _ hfi
  rw[ho,hc1,List.getElem?_eq_getElem (by omega)] at h1
  have hkd:aLo P fs[i].type=some k:=by
   have:=congrArg (·[i]?) hk
   simp only[List.getElem?_map,hki,Array.getElem?_toList,hfi,Option.map_some] at this
   exact Option.some.inj this
  obtain ⟨u,hu,hku⟩:=aDi hkd h1
  have:v=u:=by
   have h2:((cs.drop i).take 1)[0]?=[u][0]?:=by rw[hu]
   rw[List.getElem?_take_of_lt (by omega),List.getElem?_drop,Nat.add_zero,hvi] at h2
   simpa using h2
  rw[this]
  exact hku
 obtain ⟨y,hy⟩:=hE cs hok
 exact ⟨y,(aFj hok).trans hy.symm⟩
theorem dec_one {α:Type} {E:Enc α} {t:TypeId} {k:Kd} (hk:aLo P t=some k) (hC:P.cellsOf t=E.sz) (hE:∀ v,k.ok v→∃ y,E.enc y=[v]):Dec enc P W E t :=
 ⟨hC,fun n cs x h=>by
  obtain ⟨v,rfl,hv⟩:=aDi hk h
  obtain ⟨y,hy⟩:=hE v hv
  refine ⟨y,?_⟩
  rw[hy,List.map_cons,aFy hv]
  rfl⟩
theorem arg_one {t:TypeId} {k:Kd} (hk:aLo P t=some k) {v:Value} {d:DataW H} {ps:List MemPlace} {b0:Nat} (hval:Value.okWide P W .any b0 t v) (h:DataW.Trod enc P W 0 (fun _=>true) true t v d ps):k.ok v∧absA W.heap.size v=v:=by
 obtain ⟨n,h⟩:=h
 have:∃ u,v.cells.toList=[u]∧k.ok u:=aDi hk h
 obtain ⟨u,hu,hku⟩:=this
 have hva:∀ cs,v ≠ .agg cs:=fun cs hv=>by
  subst hv
  unfold aLo at hk
  unfold Value.okWide at hval
  split at hk<;>rename_i hu'<;>simp[hu',Cell.okWide,Cell.ok] at hval
  cases hk
 have hv:v=u:=by
  cases v<;>simp_all [Value.cells]
 subst hv
 refine ⟨hku,?_⟩
 rw[← aFy (N:=W.heap.size) hku]
 cases k with
 | bool=>obtain ⟨b,rfl⟩:=hku; rfl
 | int k=>obtain ⟨n,rfl,_⟩:=hku; rfl
 | str=>obtain ⟨s,rfl,_⟩:=hku; rfl
end
theorem wf_u8 {n:Int} (h:(Lit.int .u8 n).wf=true):∃ x,u8 x = .int .u8 n:=by
 obtain ⟨h1,h2⟩:=bounds_u8 h
 obtain ⟨m,rfl⟩:=Int.eq_ofNat_of_zero_le h1
 exact ⟨_,(aKJ m (by omega)).symm⟩
theorem wf_u32 {n:Int} (h:(Lit.int .u32 n).wf=true):∃ x,u32 x = .int .u32 n:=by
 obtain ⟨h1,h2⟩:=bounds_u32 h
 obtain ⟨m,rfl⟩:=Int.eq_ofNat_of_zero_le h1
 exact ⟨_,(aGo m (by omega)).symm⟩
theorem wf_u64 {n:Int} (h:(Lit.int .u64 n).wf=true):∃ x,u64 x = .int .u64 n:=by
 obtain ⟨h1,h2⟩:=bounds_u64 h
 obtain ⟨m,rfl⟩:=Int.eq_ofNat_of_zero_le h1
 exact ⟨_,(aGl m (by omega)).symm⟩
end Go.Dx
