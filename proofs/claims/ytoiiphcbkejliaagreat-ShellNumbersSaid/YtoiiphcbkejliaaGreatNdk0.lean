/- A text of this claim. -/
import Derived.Test.YtoiiphcbkejliaaGreatNd0
import Derived.Test.YtoiiphcbkejliaaGreatNda0
import Derived.Test.YtoiiphcbkejliaaGreatNda1
import Derived.Test.YtoiiphcbkejliaaGreatNda2
import Derived.Test.YtoiiphcbkejliaaGreatNda3
import Derived.Test.YtoiiphcbkejliaaGreatNda4
import Derived.Test.YtoiiphcbkejliaaGreatNda5
import Derived.Test.YtoiiphcbkejliaaGreatNda6
import Derived.Test.YtoiiphcbkejliaaGreatNc0
import Derived.Test.YtoiiphcbkejliaaGreatNcz0
import Derived.Test.YtoiiphcbkejliaaGreatNcy0
set_option maxRecDepth 1000000
set_option linter.unusedSimpArgs false
set_option linter.unusedVariables false
namespace Go.Proofs.YtoiiphcbkejliaaGreat.Cd
open Go Go.Dx
section
theorem aMA {T:Nat→Option Dx.Fn} (hT:T 92=some (.code (⟨aIz.c,aIz.r,some []⟩:F))) {h:Hp} {a a':Option Addr} {c c':Nat} {xs ys:By} (hx:bI aLL h a xs) (hy:bI aLL h a' ys) (hb:xs.length<2^63):WC T 92 [.slice a xs.length c,.slice a' ys.length c'] h fun v h'=>v = .bool (decide (xs=ys))∧h'=h:=by
 rw[wX hT]
 by_cases hl:xs.length=ys.length
 case neg =>
  have hne:xs≠ys:=fun e=>hl (by rw[e])
  have hl':¬ ((xs.length:Int)=ys.length):=by omega
  simp (maxSteps:=9^7)(disch:=first|assumption|((try simp only[nX]);omega)|simp) [hl',hne]
 simp (maxSteps:=9^7)(disch:=first|assumption|((try simp only[nX]);omega)|simp) [hl]
 refine aOy (fun n e h'=>∃ us vs ws,n=vs.length∧h'=h∧xs=us++vs∧ys=us++ws∧e 0 = .slice a xs.length c∧e 1 = .slice a' ys.length c'∧e 12 = .int .i64 xs.length∧e 13 = .int .i64 us.length) ?_ xs.length _ _ ⟨[],xs,ys,rfl,rfl,rfl,rfl,by simp[hl],by simp,by simp[hl],by simp⟩
 rintro n ih e h' ⟨us,vs,ws,rfl,rfl,h1,h2,e0,e1,e12,e13⟩
 cases vs with
 | nil =>
  have hw:ws=[]:=by
   have h3:=hl
   rw[h1,h2] at h3
   simpa using h3
  subst hw
  have hxs:xs=us:=by simpa using h1
  have hxy:xs=ys:=by rw[h1,h2]
  have hll:us.length=xs.length:=by rw[hxs]
  simp (maxSteps:=9^7)(disch:=first|assumption|((try simp only[nX]);omega)|simp) [e0,e12,e13,hll,hxy]
 | cons x vs =>
  cases ws with
  | nil =>
   have h3:=hl
   rw[h1,h2] at h3
   simp at h3
  | cons y ws =>
   have hlt:(us.length:Int)<xs.length:=by rw[h1]; simp; omega
   have hlt':(us.length:Int)<ys.length:=by omega
   obtain ⟨A,ro,C,hA,g3,k1⟩:=bI.cell (E:=aLL) (f:=fun x=>u8 x) (fun _=>rfl) rfl (us:=us) (x:=x) (vs:=vs) (by rw[← h1]; exact hx)
   obtain ⟨A',ro',C',hA',g4,k2⟩:=bI.cell (E:=aLL) (f:=fun x=>u8 x) (fun _=>rfl) rfl (us:=us) (x:=y) (vs:=ws) (by rw[← h2]; exact hy)
   by_cases hxy:x=y
   ·simp (maxSteps:=9^7)(disch:=first|assumption|((try simp only[nX]);omega)|simp) [e0,e1,e12,e13,hlt,hlt',hA,hA',g3,g4,k1,k2,hxy]
    apply ih vs.length (by simp)
    refine ⟨us++[x],vs,ws,rfl,rfl,by simp[h1],by simp[h2,hxy],by simp[e0,hA],by simp[e1,hA'],by simp[e12],by simp⟩
   ·have hne:xs≠ys:=fun e=>by rw[h1,h2] at e; simp[hxy] at e
    simp (maxSteps:=9^7)(disch:=first|assumption|((try simp only[nX]);omega)|simp) [e0,e1,e12,e13,hlt,hlt',hA,hA',g3,g4,k1,k2,hxy,hne]
end
def allEq:List Value→List Value→Bool
 | [],[]=>true
 | .int .u8 (.ofNat a)::l,.int .u8 (.ofNat b)::l'=>bif Nat.beq a b then (bif Nat.blt a 256 then allEq l l' else false) else false
 | _,_=>false
theorem aIP:∀ {l l':List Value},allEq l l'=true→∃ B:By,l=B.map u8∧l'=B.map u8:=by
 intro l
 induction l with
 | nil =>
  intro l' h
  cases l' with
  | nil=>exact ⟨[],rfl,rfl⟩
  | cons a l'=>cases h
 | cons x l ih =>
  intro l' h
  unfold allEq at h
  split at h
  ·rename_i h2; cases h2
  ·rename_i a l1 b l2 h1
   cases h1
   rw[aA2,aK] at h
   by_cases c:a=b
   ·by_cases c2:a<256
    ·simp only[c,decide_true,cond_true] at h
     subst c
     simp only[c2,decide_true,cond_true] at h
     obtain ⟨B,h3,h4⟩:=ih h
     have e:Value.int .u8 (.ofNat a)=u8 (BitVec.ofNat 8 a):=by
      simp only[u8,BitVec.toNat_ofNat]
      rw[Nat.mod_eq_of_lt c2]
      rfl
     exact ⟨BitVec.ofNat 8 a::B,by rw[h3,e]; rfl,by rw[h4,e]; rfl⟩
    ·subst c
     simp[c2] at h
   ·simp[c] at h
  ·cases h
def rdS (h:Hp):Value→Option (List Value)
 | .slice none 0 _=>some []
 | .slice (some ⟨b,o,none⟩) n _=>h.rdn b o n
 | .slice (some ⟨b,o,some 1⟩) n _=>h.rdn b o n
 | _=>none
def gEq (args:List Value) (h:Hp):Option Value:=match args with
 | [x,y]=>match rdS h x,rdS h y with
  | some l,some l'=>bif Nat.blt l.length 1000000 then (bif allEq l l' then some (.bool true) else none) else none
  | _,_=>none
 | _=>none
theorem aGh {h:Hp} {b o n:Nat} {B:By} (hx:h.rdn b o n=some (B.map u8)):B.length=n:=by
 unfold Hp.rdn at hx
 obtain ⟨l,h1,h2⟩:=Option.bind_eq_some_iff.1 hx
 split at h2
 ·have:=congrArg List.length (Option.some.inj h2)
  simp at this
  omega
 ·cases h2
theorem aJO {h:Hp} {x:Value} {B:By} (hx:rdS h x=some (B.map u8)):∃ a c,x = .slice a B.length c∧bI aLL h a B:=by
 unfold rdS at hx
 split at hx
 ·rename_i c
  have:B=[]:=by simpa using hx.symm
  subst this
  exact ⟨none,c,rfl,.nul⟩
 ·rename_i b o n c
  have hn:=aGh hx
  subst hn
  exact ⟨_,c,rfl,fun hA=>(by cases hA),fun A hA=>by cases hA; rw[aFz,Nat.mul_one,aEZ]; exact hx,fun A hA=>by cases hA; exact .inl rfl⟩
 ·rename_i b o n c
  have hn:=aGh hx
  subst hn
  exact ⟨_,c,rfl,fun hA=>(by cases hA),fun A hA=>by cases hA; rw[aFz,Nat.mul_one,aEZ]; exact hx,fun A hA=>by cases hA; exact .inr rfl⟩
 ·cases hx
theorem aOH {T:Nat→Option Dx.Fn} (hT:T 92=some (.code (⟨aIz.c,aIz.r,some []⟩:F))) (args:List Value) (h:Hp) (v:Value) (hv:gEq args h=some v):WC T 92 args h fun v' h'=>v'=v∧h'=h:=by
 unfold gEq at hv
 split at hv
 ·rename_i x y
  split at hv
  ·rename_i l l' h1 h2
   rw[aK] at hv
   by_cases c:l.length<1000000
   ·simp only[c,decide_true,cond_true] at hv
    cases he:allEq l l' with
    | false=>rw[he] at hv; cases hv
    | true =>
     rw[he] at hv
     cases hv
     obtain ⟨B,rfl,rfl⟩:=aIP he
     obtain ⟨a,c1,rfl,s1⟩:=aJO h1
     obtain ⟨a',c2,rfl,s2⟩:=aJO h2
     have:=aMA hT (c:=c1) (c':=c2) s1 s2 (by simp at c; omega)
     simpa using this
   ·simp[c] at hv
  ·cases hv
 ·cases hv
set_option maxHeartbeats 8000000
set_option linter.defProp false
noncomputable def T0:Nat→Option Dx.Fn:=TT Tryz.prog fun _=>none
noncomputable def T1:Nat→Option Dx.Fn:=ins 92 (.spec fun a h=>(gEq a h).map fun v=>(v,h)) T0
theorem aSi:aBG Tryz.prog (aAJ Tryz.prog) T1:=aEY (aGG (T:=T0) (aMR fun _ _ h=>by cases h) (aOH (aB aIz rfl))) (aMR fun _ _ h=>by cases h)
noncomputable def Tl:List (Nat×Dx.Fx):=(92,.pure gEq)::[(271,.code ⟨aFe.c,aFe.r,some []⟩),(273,.code ⟨aF1.c,aF1.r,some []⟩),(272,.code ⟨aHr.c,aHr.r,some []⟩),(308,.code ⟨aJL.c,aJL.r,some []⟩),(260,.code ⟨aEs.c,aEs.r,some []⟩),(311,.code ⟨aEC.c,aEC.r,some []⟩),(331,.code ⟨aK3.c,aK3.r,some []⟩),(309,.code ⟨aIx.c,aIx.r,some []⟩),(310,.code ⟨aEz.c,aEz.r,some []⟩),(186,.code ⟨aMl.c,aMl.r,some []⟩),(233,.code ⟨aJA.c,aJA.r,some []⟩),(187,.code ⟨aC8.c,aC8.r,some []⟩),(185,.code ⟨aF8.c,aF8.r,some []⟩),(276,.code ⟨aHu.c,aHu.r,some []⟩),(274,.code ⟨aEo.c,aEo.r,some []⟩),(275,.code ⟨aFc.c,aFc.r,some []⟩),(93,.code ⟨aMh.c,aMh.r,some []⟩),(95,.code ⟨aMF.c,aMF.r,some []⟩),(174,.code ⟨aHN.c,aHN.r,some []⟩),(220,.code ⟨aGF.c,aGF.r,some []⟩),(180,.code ⟨aJ1.c,aJ1.r,some []⟩),(37,.code ⟨aLS.c,aLS.r,some []⟩),(134,.code ⟨aMJ.c,aMJ.r,some []⟩),(89,.code ⟨aM6.c,aM6.r,some []⟩),(264,.code ⟨aFl.c,aFl.r,some []⟩),(132,.code ⟨aKh.c,aKh.r,some []⟩),(217,.code ⟨aF5.c,aF5.r,some []⟩),(193,.code ⟨aIL.c,aIL.r,some []⟩),(239,.code ⟨aGy.c,aGy.r,some []⟩),(256,.code ⟨aD4.c,aD4.r,some []⟩),(306,.code ⟨aEO.c,aEO.r,some []⟩),(81,.code ⟨aHb.c,aHb.r,some []⟩),(255,.code ⟨aIC.c,aIC.r,some []⟩),(136,.code ⟨aFZ.c,aFZ.r,some []⟩),(88,.code ⟨aHG.c,aHG.r,some []⟩),(86,.code ⟨aLO.c,aLO.r,some []⟩),(184,.code ⟨aH1.c,aH1.r,some []⟩),(188,.code ⟨aFp.c,aFp.r,some []⟩),(196,.code ⟨aIU.c,aIU.r,some []⟩),(79,.code ⟨aJU.c,aJU.r,some []⟩),(348,.code ⟨aI8.c,aI8.r,some []⟩),(373,.code ⟨aJZ.c,aJZ.r,some []⟩),(383,.code ⟨aKi.c,aKi.r,some []⟩),(359,.code ⟨aM1.c,aM1.r,some []⟩),(254,.code ⟨aHo.c,aHo.r,some []⟩),(218,.code ⟨aDU.c,aDU.r,some []⟩),(80,.code ⟨aJN.c,aJN.r,some []⟩),(181,.code ⟨aF4.c,aF4.r,some []⟩),(133,.code ⟨aJD.c,aJD.r,some []⟩),(175,.code ⟨aJl.c,aJl.r,some []⟩),(266,.code ⟨aJC.c,aJC.r,some []⟩),(226,.code ⟨aJe.c,aJe.r,some []⟩),(176,.code ⟨aJR.c,aJR.r,some []⟩),(231,.code ⟨aJP.c,aJP.r,some []⟩),(267,.code ⟨aCm.c,aCm.r,some []⟩),(307,.code ⟨aHB.c,aHB.r,some []⟩),(253,.code ⟨aMO.c,aMO.r,some []⟩),(179,.code ⟨aCr.c,aCr.r,some []⟩),(178,.code ⟨aFR.c,aFR.r,some []⟩),(127,.code ⟨aFT.c,aFT.r,some []⟩),(219,.code ⟨aKg.c,aKg.r,some []⟩),(177,.code ⟨aJr.c,aJr.r,some []⟩),(224,.code ⟨aEM.c,aEM.r,some []⟩),(265,.code ⟨aJg.c,aJg.r,some []⟩),(229,.code ⟨aF9.c,aF9.r,some []⟩),(228,.code ⟨aEH.c,aEH.r,some []⟩),(222,.code ⟨aDT.c,aDT.r,some []⟩),(263,.code ⟨aMa.c,aMa.r,some []⟩),(262,.code ⟨aI0.c,aI0.r,some []⟩),(225,.code ⟨aCu.c,aCu.r,some []⟩),(227,.code ⟨aEp.c,aEp.r,some []⟩),(223,.code ⟨aF6.c,aF6.r,some []⟩),(221,.code ⟨aMM.c,aMM.r,some []⟩),(259,.code ⟨aGq.c,aGq.r,some []⟩),(298,.code ⟨aHf.c,aHf.r,some []⟩),(295,.code ⟨aC3.c,aC3.r,some []⟩),(258,.code ⟨aGH.c,aGH.r,some []⟩),(300,.code ⟨aCb.c,aCb.r,some []⟩),(301,.code ⟨aJT.c,aJT.r,some []⟩),(297,.code ⟨aIN.c,aIN.r,some []⟩),(296,.code ⟨aC2.c,aC2.r,some []⟩),(299,.code ⟨aJJ.c,aJJ.r,some []⟩),(325,.code ⟨aHK.c,aHK.r,some []⟩),(257,.code ⟨aE0.c,aE0.r,some []⟩),(140,.code ⟨aLe.c,aLe.r,some []⟩),(252,.code ⟨aJx.c,aJx.r,some []⟩),(284,.code ⟨aKd.c,aKd.r,some []⟩),(294,.code ⟨aGO.c,aGO.r,some []⟩),(323,.code ⟨aL1.c,aL1.r,some []⟩),(330,.code ⟨aFi.c,aFi.r,some []⟩),(350,.code ⟨aIH.c,aIH.r,some []⟩),(289,.code ⟨aFg.c,aFg.r,some []⟩),(126,.code ⟨aGe.c,aGe.r,some []⟩),(251,.code ⟨aKA.c,aKA.r,some []⟩),(283,.code ⟨aMV.c,aMV.r,some []⟩),(293,.code ⟨aGW.c,aGW.r,some []⟩),(329,.code ⟨aG7.c,aG7.r,some []⟩),(349,.code ⟨aIa.c,aIa.r,some []⟩),(288,.code ⟨aHj.c,aHj.r,some []⟩),(125,.code ⟨aHm.c,aHm.r,some []⟩),(36,.code ⟨aKm.c,aKm.r,some []⟩),(57,.code ⟨aMb.c,aMb.r,some []⟩),(56,.code ⟨aLF.c,aLF.r,some []⟩),(55,.code ⟨aL0.c,aL0.r,some []⟩),(83,.code ⟨aCq.c,aCq.r,some []⟩),(35,.code ⟨aMn.c,aMn.r,some []⟩),(85,.code ⟨aJf.c,aJf.r,some []⟩),(191,.code ⟨aHJ.c,aHJ.r,some []⟩),(129,.code ⟨aHY.c,aHY.r,some []⟩),(130,.code ⟨aCo.c,aCo.r,some []⟩),(236,.code ⟨aEE.c,aEE.r,some []⟩),(131,.code ⟨aDG.c,aDG.r,some []⟩),(87,.code ⟨aHw.c,aHw.r,some []⟩),(51,.code ⟨aI1.c,aI1.r,some []⟩),(339,.code ⟨aFd.c,aFd.r,some []⟩),(321,.code ⟨aEN.c,aEN.r,some []⟩),(320,.code ⟨aGA.c,aGA.r,some []⟩),(280,.code ⟨aGS.c,aGS.r,some []⟩),(319,.code ⟨aMf.c,aMf.r,some []⟩),(335,.code ⟨aHQ.c,aHQ.r,some []⟩),(344,.code ⟨aC0.c,aC0.r,some []⟩),(356,.code ⟨aMN.c,aMN.r,some []⟩),(235,.code ⟨aJY.c,aJY.r,some []⟩),(279,.code ⟨bP.c,bP.r,some []⟩),(317,.code ⟨aJQ.c,aJQ.r,some []⟩),(316,.code ⟨bT.c,bT.r,some []⟩),(194,.code ⟨aJX.c,aJX.r,some []⟩),(290,.code ⟨aHW.c,aHW.r,some []⟩),(238,.code ⟨aIV.c,aIV.r,some []⟩),(326,.code ⟨aID.c,aID.r,some []⟩),(122,.code ⟨aLv.c,aLv.r,some []⟩),(351,.code ⟨aK1.c,aK1.r,some []⟩),(362,.code ⟨aJ2.c,aJ2.r,some []⟩),(360,.code ⟨aHV.c,aHV.r,some []⟩),(376,.code ⟨aGC.c,aGC.r,some []⟩),(78,.code ⟨aLP.c,aLP.r,some []⟩),(82,.code ⟨aF3.c,aF3.r,some []⟩),(77,.code ⟨aLA.c,aLA.r,some []⟩),(84,.code ⟨aJa.c,aJa.r,some []⟩),(52,.code ⟨aIM.c,aIM.r,some []⟩),(128,.code ⟨aEF.c,aEF.r,some []⟩),(314,.code ⟨aCW.c,aCW.r,some []⟩),(337,.code ⟨aM3.c,aM3.r,some []⟩),(315,.code ⟨aFJ.c,aFJ.r,some []⟩),(278,.code ⟨aLY.c,aLY.r,some []⟩),(342,.code ⟨aFv.c,aFv.r,some []⟩),(341,.code ⟨aFa.c,aFa.r,some []⟩),(355,.code ⟨aJI.c,aJI.r,some []⟩),(334,.code ⟨aIt.c,aIt.r,some []⟩),(338,.code ⟨aJ8.c,aJ8.r,some []⟩),(15,.code ⟨aKO.c,aKO.r,some []⟩),(119,.code ⟨aJM.c,aJM.r,some []⟩),(90,.code ⟨aIk.c,aIk.r,some []⟩),(190,.code ⟨aGP.c,aGP.r,some []⟩),(189,.code ⟨aMe.c,aMe.r,some []⟩),(121,.code ⟨aJB.c,aJB.r,some []⟩),(91,.code ⟨aKf.c,aKf.r,some []⟩),(305,.code ⟨aGL.c,aGL.r,some []⟩),(137,.code ⟨aJk.c,aJk.r,some []⟩),(135,.code ⟨aG1.c,aG1.r,some []⟩),(234,.code ⟨aJ6.c,aJ6.r,some []⟩),(197,.code ⟨aKL.c,aKL.r,some []⟩),(139,.code ⟨aKB.c,aKB.r,some []⟩),(173,.code ⟨aHv.c,aHv.r,some []⟩),(182,.code ⟨aF0.c,aF0.r,some []⟩),(183,.code ⟨aIS.c,aIS.r,some []⟩),(26,.code ⟨aMr.c,aMr.r,some []⟩),(21,.code ⟨aC1.c,aC1.r,some []⟩),(14,.code ⟨aEi.c,aEi.r,some []⟩),(11,.code ⟨aDA.c,aDA.r,some []⟩),(30,.code ⟨aKK.c,aKK.r,some []⟩),(40,.code ⟨aGD.c,aGD.r,some []⟩),(41,.code ⟨aJ9.c,aJ9.r,some []⟩),(29,.code ⟨aJo.c,aJo.r,some []⟩),(28,.code ⟨aJz.c,aJz.r,some []⟩),(198,.code ⟨aJt.c,aJt.r,some []⟩),(63,.code ⟨aJ3.c,aJ3.r,some []⟩),(195,.code ⟨aKE.c,aKE.r,some []⟩),(354,.code ⟨aES.c,aES.r,some []⟩),(336,.code ⟨aLG.c,aLG.r,some []⟩),(318,.code ⟨aKy.c,aKy.r,some []⟩),(248,.code ⟨aHH.c,aHH.r,some []⟩),(138,.code ⟨aHS.c,aHS.r,some []⟩),(94,.code ⟨aHP.c,aHP.r,some []⟩),(363,.code ⟨aH4.c,aH4.r,some []⟩),(352,.code ⟨aIl.c,aIl.r,some []⟩),(343,.code ⟨aH8.c,aH8.r,some []⟩),(240,.code ⟨aIe.c,aIe.r,some []⟩),(340,.code ⟨aHy.c,aHy.r,some []⟩),(346,.code ⟨aKx.c,aKx.r,some []⟩),(353,.code ⟨aL3.c,aL3.r,some []⟩),(369,.code ⟨aFD.c,aFD.r,some []⟩),(370,.code ⟨aEq.c,aEq.r,some []⟩),(368,.code ⟨aFf.c,aFf.r,some []⟩),(365,.code ⟨aHX.c,aHX.r,some []⟩),(367,.code ⟨aH0.c,aH0.r,some []⟩),(381,.code ⟨aKC.c,aKC.r,some []⟩),(382,.code ⟨aHU.c,aHU.r,some []⟩),(379,.code ⟨aLD.c,aLD.r,some []⟩),(385,.code ⟨aIR.c,aIR.r,some []⟩),(372,.code ⟨aCR.c,aCR.r,some []⟩),(374,.code ⟨aEu.c,aEu.r,some []⟩),(375,.code ⟨aCN.c,aCN.r,some []⟩),(361,.code ⟨bM.c,bM.r,some []⟩),(371,.code ⟨aIY.c,aIY.r,some []⟩),(377,.code ⟨aG2.c,aG2.r,some []⟩),(378,.code ⟨aGs.c,aGs.r,some []⟩),(358,.code ⟨aCz.c,aCz.r,some []⟩),(384,.code ⟨aI2.c,aI2.r,some []⟩),(366,.code ⟨bG.c,bG.r,some []⟩),(380,.code ⟨aHZ.c,aHZ.r,some []⟩),(123,.code ⟨aJi.c,aJi.r,some []⟩),(249,.code ⟨aJm.c,aJm.r,some []⟩),(281,.code ⟨aMK.c,aMK.r,some []⟩),(291,.code ⟨aHR.c,aHR.r,some []⟩),(327,.code ⟨aF7.c,aF7.r,some []⟩),(285,.code ⟨aLw.c,aLw.r,some []⟩),(277,.code ⟨aFY.c,aFY.r,some []⟩),(268,.code ⟨aJG.c,aJG.r,some []⟩),(232,.code ⟨aF2.c,aF2.r,some []⟩),(270,.code ⟨aIu.c,aIu.r,some []⟩),(269,.code ⟨aHg.c,aHg.r,some []⟩),(32,.code ⟨aHT.c,aHT.r,some []⟩),(33,.code ⟨aFb.c,aFb.r,some []⟩),(34,.code ⟨aMS.c,aMS.r,some []⟩),(58,.code ⟨aGN.c,aGN.r,some []⟩),(53,.code ⟨aKD.c,aKD.r,some []⟩),(54,.code ⟨aL9.c,aL9.r,some []⟩),(124,.code ⟨aJp.c,aJp.r,some []⟩),(250,.code ⟨aHO.c,aHO.r,some []⟩),(282,.code ⟨aKN.c,aKN.r,some []⟩),(59,.code ⟨aMk.c,aMk.r,some []⟩),(292,.code ⟨aHA.c,aHA.r,some []⟩),(192,.code ⟨aDz.c,aDz.r,some []⟩),(328,.code ⟨aB6.c,aB6.r,some []⟩),(287,.code ⟨aDu.c,aDu.r,some []⟩),(324,.code ⟨aDV.c,aDV.r,some []⟩),(120,.code ⟨aDo.c,aDo.r,some []⟩),(141,.code ⟨aDQ.c,aDQ.r,some []⟩),(322,.code ⟨aBq.c,aBq.r,some []⟩),(347,.code ⟨aDP.c,aDP.r,some []⟩),(345,.code ⟨aCC.c,aCC.r,some []⟩),(230,.code ⟨aCJ.c,aCJ.r,some []⟩),(216,.code ⟨aBp.c,aBp.r,some []⟩),(357,.code ⟨aDF.c,aDF.r,some []⟩),(364,.code ⟨aDJ.c,aDJ.r,some []⟩),(333,.code ⟨aDm.c,aDm.r,some []⟩),(332,.code ⟨aDf.c,aDf.r,some []⟩),(313,.code ⟨aBm.c,aBm.r,some []⟩),(303,.code ⟨aCc.c,aCc.r,some []⟩),(312,.code ⟨aCI.c,aCI.r,some []⟩),(302,.code ⟨aBx.c,aBx.r,some []⟩),(304,.code ⟨aD8.c,aD8.r,some []⟩),(261,.code ⟨aCV.c,aCV.r,some []⟩)]
theorem al1:∀ p∈Tl,Dx.aHI T1 p.1 p.2:=aDY rfl<|aC (aA (aB aFe rfl))<|aC (aA (aB aF1 rfl))<|aC (aA (aB aHr rfl))<|aC (aA (aB aJL rfl))<|aC (aA (aB aEs rfl))<|aC (aA (aB aEC rfl))<|aC (aA (aB aK3 rfl))<|aC (aA (aB aIx rfl))<|aC (aA (aB aEz rfl))<|aC (aA (aB aMl rfl))<|aC (aA (aB aJA rfl))<|aC (aA (aB aC8 rfl))<|aC (aA (aB aF8 rfl))<|aC (aA (aB aHu rfl))<|aC (aA (aB aEo rfl))<|aC (aA (aB aFc rfl))<|aC (aA (aB aMh rfl))<|aC (aA (aB aMF rfl))<|aC (aA (aB aHN rfl))<|aC (aA (aB aGF rfl))<|aC (aA (aB aJ1 rfl))<|aC (aA (aB aLS rfl))<|aC (aA (aB aMJ rfl))<|aC (aA (aB aM6 rfl))<|aC (aA (aB aFl rfl))<|aC (aA (aB aKh rfl))<|aC (aA (aB aF5 rfl))<|aC (aA (aB aIL rfl))<|aC (aA (aB aGy rfl))<|aC (aA (aB aD4 rfl))<|aC (aA (aB aEO rfl))<|aC (aA (aB aHb rfl))<|aC (aA (aB aIC rfl))<|aC (aA (aB aFZ rfl))<|aC (aA (aB aHG rfl))<|aC (aA (aB aLO rfl))<|aC (aA (aB aH1 rfl))<|aC (aA (aB aFp rfl))<|aC (aA (aB aIU rfl))<|aC (aA (aB aJU rfl))<|aC (aA (aB aI8 rfl))<|aC (aA (aB aJZ rfl))<|aC (aA (aB aKi rfl))<|aC (aA (aB aM1 rfl))<|aC (aA (aB aHo rfl))<|aC (aA (aB aDU rfl))<|aC (aA (aB aJN rfl))<|aC (aA (aB aF4 rfl))<|aC (aA (aB aJD rfl))<|aC (aA (aB aJl rfl))<|aC (aA (aB aJC rfl))<|aC (aA (aB aJe rfl))<|aC (aA (aB aJR rfl))<|aC (aA (aB aJP rfl))<|aC (aA (aB aCm rfl))<|aC (aA (aB aHB rfl))<|aC (aA (aB aMO rfl))<|aC (aA (aB aCr rfl))<|aC (aA (aB aFR rfl))<|aC (aA (aB aFT rfl))<|aC (aA (aB aKg rfl))<|aC (aA (aB aJr rfl))<|aC (aA (aB aEM rfl))<|aC (aA (aB aJg rfl))<|aC (aA (aB aF9 rfl))<|aC (aA (aB aEH rfl))<|aC (aA (aB aDT rfl))<|aC (aA (aB aMa rfl))<|aC (aA (aB aI0 rfl))<|aC (aA (aB aCu rfl))<|aC (aA (aB aEp rfl))<|aC (aA (aB aF6 rfl))<|aC (aA (aB aMM rfl))<|aC (aA (aB aGq rfl))<|aC (aA (aB aHf rfl))<|aC (aA (aB aC3 rfl))<|aC (aA (aB aGH rfl))<|aC (aA (aB aCb rfl))<|aC (aA (aB aJT rfl))<|aC (aA (aB aIN rfl))<|aC (aA (aB aC2 rfl))<|aC (aA (aB aJJ rfl))<|aC (aA (aB aHK rfl))<|aC (aA (aB aE0 rfl))<|aC (aA (aB aLe rfl))<|aC (aA (aB aJx rfl))<|aC (aA (aB aKd rfl))<|aC (aA (aB aGO rfl))<|aC (aA (aB aL1 rfl))<|aC (aA (aB aFi rfl))<|aC (aA (aB aIH rfl))<|aC (aA (aB aFg rfl))<|aC (aA (aB aGe rfl))<|aC (aA (aB aKA rfl))<|aC (aA (aB aMV rfl))<|aC (aA (aB aGW rfl))<|aC (aA (aB aG7 rfl))<|aC (aA (aB aIa rfl))<|aC (aA (aB aHj rfl))<|aC (aA (aB aHm rfl))<|aC (aA (aB aKm rfl))<|aC (aA (aB aMb rfl))<|aC (aA (aB aLF rfl))<|aC (aA (aB aL0 rfl))<|aC (aA (aB aCq rfl))<|aC (aA (aB aMn rfl))<|aC (aA (aB aJf rfl))<|aC (aA (aB aHJ rfl))<|aC (aA (aB aHY rfl))<|aC (aA (aB aCo rfl))<|aC (aA (aB aEE rfl))<|aC (aA (aB aDG rfl))<|aC (aA (aB aHw rfl))<|aC (aA (aB aI1 rfl))<|aC (aA (aB aFd rfl))<|aC (aA (aB aEN rfl))<|aC (aA (aB aGA rfl))<|aC (aA (aB aGS rfl))<|aC (aA (aB aMf rfl))<|aC (aA (aB aHQ rfl))<|aC (aA (aB aC0 rfl))<|aC (aA (aB aMN rfl))<|aC (aA (aB aJY rfl))<|aC (aA (aB bP rfl))<|aC (aA (aB aJQ rfl))<|aC (aA (aB bT rfl))<|aC (aA (aB aJX rfl))<|aC (aA (aB aHW rfl))<|aC (aA (aB aIV rfl))<|aC (aA (aB aID rfl))<|aC (aA (aB aLv rfl))<|aC (aA (aB aK1 rfl))<|aC (aA (aB aJ2 rfl))<|aC (aA (aB aHV rfl))<|aC (aA (aB aGC rfl))<|aC (aA (aB aLP rfl))<|aC (aA (aB aF3 rfl))<|aC (aA (aB aLA rfl))<|aC (aA (aB aJa rfl))<|aC (aA (aB aIM rfl))<|aC (aA (aB aEF rfl))<|aC (aA (aB aCW rfl))<|aC (aA (aB aM3 rfl))<|aC (aA (aB aFJ rfl))<|aC (aA (aB aLY rfl))<|aC (aA (aB aFv rfl))<|aC (aA (aB aFa rfl))<|aC (aA (aB aJI rfl))<|aC (aA (aB aIt rfl))<|aC (aA (aB aJ8 rfl))<|aC (aA (aB aKO rfl))<|aC (aA (aB aJM rfl))<|aC (aA (aB aIk rfl))<|aC (aA (aB aGP rfl))<|aC (aA (aB aMe rfl))<|aC (aA (aB aJB rfl))<|aC (aA (aB aKf rfl))<|aC (aA (aB aGL rfl))<|aC (aA (aB aJk rfl))<|aC (aA (aB aG1 rfl))<|aC (aA (aB aJ6 rfl))<|aC (aA (aB aKL rfl))<|aC (aA (aB aKB rfl))<|aC (aA (aB aHv rfl))<|aC (aA (aB aF0 rfl))<|aC (aA (aB aIS rfl))<|aC (aA (aB aMr rfl))<|aC (aA (aB aC1 rfl))<|aC (aA (aB aEi rfl))<|aC (aA (aB aDA rfl))<|aC (aA (aB aKK rfl))<|aC (aA (aB aGD rfl))<|aC (aA (aB aJ9 rfl))<|aC (aA (aB aJo rfl))<|aC (aA (aB aJz rfl))<|aC (aA (aB aJt rfl))<|aC (aA (aB aJ3 rfl))<|aC (aA (aB aKE rfl))<|aC (aA (aB aES rfl))<|aC (aA (aB aLG rfl))<|aC (aA (aB aKy rfl))<|aC (aA (aB aHH rfl))<|aC (aA (aB aHS rfl))<|aC (aA (aB aHP rfl))<|aC (aA (aB aH4 rfl))<|aC (aA (aB aIl rfl))<|aC (aA (aB aH8 rfl))<|aC (aA (aB aIe rfl))<|aC (aA (aB aHy rfl))<|aC (aA (aB aKx rfl))<|aC (aA (aB aL3 rfl))<|aC (aA (aB aFD rfl))<|aC (aA (aB aEq rfl))<|aC (aA (aB aFf rfl))<|aC (aA (aB aHX rfl))<|aC (aA (aB aH0 rfl))<|aC (aA (aB aKC rfl))<|aC (aA (aB aHU rfl))<|aC (aA (aB aLD rfl))<|aC (aA (aB aIR rfl))<|aC (aA (aB aCR rfl))<|aC (aA (aB aEu rfl))<|aC (aA (aB aCN rfl))<|aC (aA (aB bM rfl))<|aC (aA (aB aIY rfl))<|aC (aA (aB aG2 rfl))<|aC (aA (aB aGs rfl))<|aC (aA (aB aCz rfl))<|aC (aA (aB aI2 rfl))<|aC (aA (aB bG rfl))<|aC (aA (aB aHZ rfl))<|aC (aA (aB aJi rfl))<|aC (aA (aB aJm rfl))<|aC (aA (aB aMK rfl))<|aC (aA (aB aHR rfl))<|aC (aA (aB aF7 rfl))<|aC (aA (aB aLw rfl))<|aC (aA (aB aFY rfl))<|aC (aA (aB aJG rfl))<|aC (aA (aB aF2 rfl))<|aC (aA (aB aIu rfl))<|aC (aA (aB aHg rfl))<|aC (aA (aB aHT rfl))<|aC (aA (aB aFb rfl))<|aC (aA (aB aMS rfl))<|aC (aA (aB aGN rfl))<|aC (aA (aB aKD rfl))<|aC (aA (aB aL9 rfl))<|aC (aA (aB aJp rfl))<|aC (aA (aB aHO rfl))<|aC (aA (aB aKN rfl))<|aC (aA (aB aMk rfl))<|aC (aA (aB aHA rfl))<|aC (aA (aB aDz rfl))<|aC (aA (aB aB6 rfl))<|aC (aA (aB aDu rfl))<|aC (aA (aB aDV rfl))<|aC (aA (aB aDo rfl))<|aC (aA (aB aDQ rfl))<|aC (aA (aB aBq rfl))<|aC (aA (aB aDP rfl))<|aC (aA (aB aCC rfl))<|aC (aA (aB aCJ rfl))<|aC (aA (aB aBp rfl))<|aC (aA (aB aDF rfl))<|aC (aA (aB aDJ rfl))<|aC (aA (aB aDm rfl))<|aC (aA (aB aDf rfl))<|aC (aA (aB aBm rfl))<|aC (aA (aB aCc rfl))<|aC (aA (aB aCI rfl))<|aC (aA (aB aBx rfl))<|aC (aA (aB aD8 rfl))<|aC (aA (aB aCV rfl))<|aJ0
theorem aIG:aV Tryz.prog 15 aBw:=aE2 aSi al1 (d:=60) (q:=9000) (by kernel_rfl)
end Go.Proofs.YtoiiphcbkejliaaGreat.Cd
