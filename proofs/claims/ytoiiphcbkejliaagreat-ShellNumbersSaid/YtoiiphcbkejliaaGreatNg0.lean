/- A text of this claim. -/
import Derived.Test.YtoiiphcbkejliaaGreatNc0
import Derived.ChangeShapes
import Derived.ChangeArms
import Derived.RowKit
import Derived.WideKeyArgs
import Derived.Carry
set_option linter.unusedSimpArgs false
set_option linter.unusedVariables false
namespace Go.Dx
open Go Go.RowKit Go.ChangeShapes Go.WideShapes
def aEV (N:Nat):Value→Value
 | .bool b => .bool b
 | .int k n => .int k n
 | .string s => .string s
 | .pointer none => .pointer none
 | .pointer (some ⟨b,o,none⟩)=>if b<N then .pointer (some ⟨b,o,none⟩) else .iface 0 (.pointer (some ⟨b,o,none⟩))
 | .slice none n c => .slice none n c
 | .slice (some ⟨b,o,none⟩) n c=>if b<N then .slice (some ⟨b,o,none⟩) n c else .iface 0 (.slice (some ⟨b,o,none⟩) n c)
 | u => .iface 0 u
def absA (N:Nat):Value→Value
 | .agg cs => .agg (cs.map (aEV N))
 | v=>aEV N v
def absP (w:World):Phi:=fun b=>match w.heap[b]? with
 | some (.cells arr _ _)=>some (b,arr.size)
 | some _=>some (b,0)
 | none=>none
def absH (w:World):Hp:=⟨w.heap.size,fun b=>match w.heap[b]? with
 | some (.cells arr _ _)=>some (.cells true (arr.toList.map (aEV w.heap.size)))
 | _=>none,fun b hb=>by rw[Array.getElem?_eq_none hb]⟩
theorem aGv {w:World} {b:Nat} (h:b<w.heap.size):∃ n,absP w b=some (b,n):=by
 unfold absP
 rw[Array.getElem?_eq_getElem h]
 cases w.heap[b]<;>exact ⟨_,rfl⟩
theorem aGu (w:World) (v:Value):VR (absP w) (aEV w.heap.size v) v:=by
 unfold aEV
 split
 ·exact .bool _
 ·exact .int _ _
 ·exact .str _
 ·exact .pnil
 ·rename_i b o
  by_cases h:b<w.heap.size
  ·rw[if_pos h]
   obtain ⟨n,hn⟩:=aGv h
   exact .ptr _ hn
  ·rw[if_neg h]; exact .junk _
 ·exact .snil _ _
 ·rename_i b o n c
  by_cases h:b<w.heap.size
  ·rw[if_pos h]
   obtain ⟨n,hn⟩:=aGv h
   exact .sl _ _ _ hn
  ·rw[if_neg h]; exact .junk _
 ·exact .junk _
theorem aJh (w:World) (l:List Value):LR (absP w) (l.map (aEV w.heap.size)) l:=by
 have:=LR.map (φ:=absP w) l (aEV w.heap.size) id fun x _=>aGu w x
 simpa using this
theorem aLk (w:World) (v:Value):VR (absP w) (absA w.heap.size v) v:=by
 unfold absA
 split
 ·rename_i cs
  have:=VR.aH2 (aJh w cs.toList)
  rw[← Array.toList_map,Array.toArray_toList,Array.toArray_toList] at this
  exact this
 ·exact aGu w _
theorem aLM (w:World) (l:List Value):LR (absP w) (l.map (absA w.heap.size)) l:=by
 have:=LR.map (φ:=absP w) l (absA w.heap.size) id fun x _=>aLk w x
 simpa using this
theorem aQw (w:World):HR (absP w) (absH w) w:=by
 refine ⟨fun b o hb=>?_,fun b c b' n m hb hc h1 h2=>?_,fun b hb=>?_⟩
 ·simp only[absH] at hb
  split at hb
  ·rename_i arr elem fr hg
   cases hb
   exact ⟨b,arr.size,by simp only[absP,hg],arr,elem,fr,hg,rfl,by simp,by
    rw[List.length_map,List.take_length]
    exact aJh w arr.toList,fun h=>by cases h⟩
  ·cases hb
 ·unfold absP at h1 h2
  split at h1<;>split at h2<;>simp_all
 ·unfold absP
  rw[Array.getElem?_eq_none hb]
theorem aVi (w:World) (b:Nat):(absH w).wrt b=false:=by
 unfold Hp.wrt
 simp only[absH]
 cases hg:w.heap[b]? with
 | none=>rfl
 | some o=>cases o<;>rfl
theorem law_true {P:Program} {T:Nat→Option Fn} (hT:aBG P (aAJ P) T) {f:Nat} {args:List Value} {w:World} (hw:WC T f (args.map (absA w.heap.size)) (absH w) fun v _=>v = .bool true) :
  Calls P f args.toArray w fun e w'=>e = .returned (.bool true)∧Below w.heap.size w w' :=
 aEk hT hw (aLM w args) (aQw w) (aVi w)
section
variable {H:Type} {enc:TypeId×Value→H} {P:Program} {W W':World}
theorem aHe {fits:TypeId→Bool} {d:Nat} {e:TypeId} {count off n:Nat} (h:rowAt P fits d e count off n=true):off≤count*P.cellsOf e:=by
 cases d with
 | zero=>simp[rowAt] at h
 | succ d =>
  simp only[rowAt] at h
  split at h
  ·cases h
  ·rename_i hs
   have hd:=Nat.div_add_mod off (P.cellsOf e)
   simp only[Bool.or_eq_true,Bool.and_eq_true,beq_iff_eq,decide_eq_true_eq] at h
   rcases h with ⟨⟨h1,h2⟩,_⟩ | ⟨h1,_⟩
   ·rw[h1] at hd
    have:off / P.cellsOf e≤count:=by omega
    have:=Nat.mul_le_mul_right (P.cellsOf e) this
    rw[Nat.mul_comm] at hd
    omega
   ·have hm:off%P.cellsOf e<P.cellsOf e:=Nat.mod_lt _ (by omega)
    have:=Nat.mul_le_mul_right (P.cellsOf e) (show off / P.cellsOf e+1≤count from h1)
    rw[Nat.add_mul,Nat.one_mul] at this
    rw[Nat.mul_comm] at hd
    omega
theorem aGE {d:Nat} {e:TypeId} {count off n:Nat} {u:TypeId} (h:liesAt P d e count off u n=true):off≤count*P.cellsOf e:=by
 induction d generalizing u n with
 | zero=>simp[liesAt] at h
 | succ d ih =>
  simp only[liesAt,Bool.or_eq_true] at h
  rcases h with h | h
  ·exact aHe h
  ·split at h
   ·exact ih h
   ·cases h
def Dec {α:Type} (enc:TypeId×Value→H) (P:Program) (W:World) (E:Enc α) (t:TypeId):Prop :=
 P.cellsOf t=E.sz∧∀ n cs x,DataW.trod enc P W 0 (fun _=>true) true n t cs=some x→∃ y,cs.map (aEV W.heap.size)=E.enc y
theorem aDp {base:Nat} {a:Addr} {n:Nat} {cs:List Value} (h:W.cells? base a n=some cs) (hn:0<n):∃ arr elem fr,W.heap[a.block]?=some (.cells arr elem fr)∧a.spot=none∧a.off+n≤arr.size∧cs=(arr.toList.drop a.off).take n:=by
 obtain ⟨_,hl,hc⟩:=World.cells?_some h
 have h0:=hc 0 hn
 obtain ⟨b,o,sp⟩:=a
 have hcell:∃ arr elem fr,W.heap[b]?=some (.cells arr elem fr)∧sp=none:=by
  have h1:W.cell? ⟨b,o,sp⟩=some (cs[0]'(by omega)):=by
   have:(⟨b,o,sp⟩:Addr).add 0=⟨b,o,sp⟩:=by simp[Addr.add]
   rw[this] at h0
   rw[h0]
   simp
  unfold World.cell? at h1
  cases hg:W.heap[b]? with
  | none=>rw[hg] at h1; cases h1
  | some ob =>
   rw[hg] at h1
   cases ob with
   | cells c elem fr =>
    refine ⟨c,elem,fr,rfl,?_⟩
    cases sp with
    | none=>rfl
    | some x=>simp at h1
   | _=>cases h1
 obtain ⟨arr,elem,fr,hg,rfl⟩:=hcell
 have each:∀ i,i<n→arr[o+i]?=cs[i]?:=fun i hi=>by
  have:=hc i hi
  rw[add_plain] at this
  unfold World.cell? at this
  simp only[hg] at this
  simpa using this
 have hlast:o+(n-1)<arr.size:=by
  have:=each (n-1) (by omega)
  rw[List.getElem?_eq_getElem (by omega)] at this
  exact (Array.getElem?_eq_some_iff.1 this).1
 refine ⟨arr,elem,fr,hg,rfl,by simp only; omega,List.ext_getElem? fun i=>?_⟩
 by_cases hi:i<n
 ·rw[List.getElem?_take_of_lt hi,List.getElem?_drop,← each i hi]
  simp
 ·rw[List.getElem?_eq_none (by omega),List.getElem?_eq_none (by simp; omega)]
theorem sees_arg {α:Type} {E:Enc α} {t e:TypeId} {v:Value} {d:DataW H} {ps:List MemPlace} {b0:Nat} (ht:P.underlying t=some (.slice e)) (hD:Dec enc P W E e) (hval:Value.okWide P W .any b0 t v)
  (h:DataW.Trod enc P W 0 (fun _=>true) true t v d ps):∃ a c xs,v = .slice a xs.length c∧absA W.heap.size v=v∧bI E (absH W) a xs∧xs.length≤c∧c≤maxLen:=by
 obtain ⟨fuel,h⟩:=h
 obtain ⟨va,vl,vc,rfl⟩:∃ a l c,v = .slice a l c:=by
  unfold Value.okWide at hval
  simp only[ht,Cell.okWide] at hval
  cases v<;>simp_all [Cell.ok]
 rcases DataW.trod_slice ht h with ⟨hc,_⟩ | ⟨a,len,cap,elems,rest,n,_,hc,_,_,hl,hm,hlen,hel,_,_⟩
 ·have:va=none∧vl=0∧vc=0:=by simpa[Value.cells] using hc
  obtain ⟨rfl,rfl,rfl⟩:=this
  exact ⟨none,0,[],rfl,rfl,.nul,Nat.le_refl _,Nat.zero_le _⟩
 ·have:va=some a∧vl=len∧vc=cap:=by simpa[Value.cells] using hc
  obtain ⟨rfl,rfl,rfl⟩:=this
  unfold Value.okWide at hval
  simp only[ht,Cell.okWide,Cell.ok] at hval
  obtain ⟨_,_,_,hs,row,cells,hsh,hla⟩:=hval
  unfold World.shape? at hsh
  split at hsh
  case h_2=>cases hsh
  rename_i arr elem fr hg
  cases hsh
  have hoff:a.off≤arr.size:=Nat.le_trans (aGE hla) (Nat.div_mul_le_self _ _)
  have hblk:a.block<W.heap.size:=(Array.getElem?_eq_some_iff.1 hg).1
  have each:∀ i,i<vl→a.off+i*E.sz+E.sz≤arr.size∧∃ y,(((arr.toList.map (aEV W.heap.size)).drop (a.off+i*E.sz)).take E.sz)=E.enc y:=fun i hi=>by
   have h1:=hel i hi
   rw[List.getElem?_eq_getElem (by omega)] at h1
   obtain ⟨cs,hcs,htr⟩:=Option.bind_eq_some_iff.1 h1
   obtain ⟨y,hy⟩:=hD.2 _ _ _ htr
   rw[hD.1] at hcs
   obtain ⟨arr',_,_,hg',_,hle,hcs'⟩:=aDp hcs E.pos
   have hadd:a.add (i*E.sz)=⟨a.block,a.off+i*E.sz,none⟩:=by
    obtain ⟨b,o,sp⟩:=a
    cases hs
    exact add_plain _ _ _
   rw[hadd] at hg' hle hcs'
   rw[hg] at hg'
   cases hg'
   refine ⟨hle,y,?_⟩
   rw[← hy,hcs',← List.map_drop,← List.map_take]
  have pick:∀ m,m≤vl→∃ xs:List α,xs.length=m∧∀ i (hi:i<xs.length),(((arr.toList.map (aEV W.heap.size)).drop (a.off+i*E.sz)).take E.sz)=E.enc xs[i]:=by
   intro m
   induction m with
   | zero=>exact fun _=>⟨[],rfl,fun i hi=>by cases hi⟩
   | succ k ih =>
    intro hk
    obtain ⟨xs,hx,hi⟩:=ih (by omega)
    obtain ⟨_,y,hy⟩:=each k (by omega)
    refine ⟨xs++[y],by simp[hx],fun i hi'=>?_⟩
    by_cases hk:i<xs.length
    ·rw[List.getElem_append_left hk]; exact hi i hk
    ·have:i=k:=by simp at hi'; omega
     subst this
     rw[hy,List.getElem_append_right (by omega)]
     simp
  obtain ⟨xs,hx,hi⟩:=pick vl (Nat.le_refl _)
  have hsum:∀ k,k≤vl→a.off+k*E.sz≤arr.size∧((arr.toList.map (aEV W.heap.size)).drop a.off).take (k*E.sz)=E.all (xs.take k):=by
   intro k
   induction k with
   | zero=>intro _; simpa using hoff
   | succ k ih =>
    intro hk
    obtain ⟨h1,h2⟩:=ih (by omega)
    obtain ⟨h3,_⟩:=each k (by omega)
    have h4:=hi k (by omega)
    refine ⟨by rw[Nat.add_mul]; omega,?_⟩
    rw[Nat.add_mul,Nat.one_mul,List.take_add,h2,List.drop_drop,h4,List.take_succ_eq_append_getElem (by omega),Enc.all_append]
    simp
  obtain ⟨a1,a2,a3⟩:=a
  cases hs
  refine ⟨some ⟨a1,a2,none⟩,vc,xs,by rw[hx],by simp[absA,aEV,hblk],⟨fun hA=>(by cases hA),fun A hA=>?_,fun A hA=>(by cases hA; exact .inl rfl)⟩,by omega,hm⟩
  cases hA
  obtain ⟨h1,h2⟩:=hsum vl (Nat.le_refl _)
  simp only[Hp.rdn,Hp.cells,absH,hg,Option.bind_some,hx]
  rw[if_pos (by simp; exact h1),h2,List.take_of_length_le (by omega)]
theorem aBI (hl:laidOutB P=true) (hb:Below W.heap.size W W') {sp:Nat→Bool}:∀ {ts:List TypeId} {vs:List Value} {ds:List (DataW H)} {ps:List MemPlace},(ts.all fun t=>P.readableRec t&&decide (t<P.types.size))=true →
  DataW.TrodAll enc P W 0 (fun _=>true) true ts vs ds ps→(∀ p∈ps,p.block<W.heap.size)→(∀ p∈ps,sp p.block=true)→DataW.TrodAll enc P W' 0 sp true ts vs ds ps
 | [],[],[],_,_,h,_,_=>h
 | t::ts,_::_,_::_,_,hts,⟨p,q,h1,h2,e⟩,hlt,hs=>by
  subst e
  simp only[List.all_cons,Bool.and_eq_true,decide_eq_true_eq] at hts
  exact ⟨p,q,WideElems.Trod_stays hl hts.1.1 hts.1.2 h1 (fun x hx=>hb.same (hlt x (List.mem_append_left _ hx))) (fun x hx=>hs x (List.mem_append_left _ hx)),
   aBI hl hb hts.2 h2 (fun x hx=>hlt x (List.mem_append_right _ hx)) (fun x hx=>hs x (List.mem_append_right _ hx)),rfl⟩
end
end Go.Dx
