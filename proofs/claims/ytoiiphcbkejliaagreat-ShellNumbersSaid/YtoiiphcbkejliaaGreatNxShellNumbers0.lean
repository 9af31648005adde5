/- A text of this claim. -/
import Derived.Test.YtoiiphcbkejliaaGreatRows
import Derived.Test.YtoiiphcbkejliaaGreatNdm0
import Derived.Test.YtoiiphcbkejliaaGreatNh0
set_option linter.unusedVariables false
set_option linter.unusedSimpArgs false
set_option maxRecDepth 100000
namespace Go.Proofs.YtoiiphcbkejliaaGreat
open Go.ChangeShapes Go.WideShapes Go.ChangeAt Go.RowKit
open Go.Dx (Dec dec_struct dec_one sees_arg arg_one absA absH WC law_calls Kd wf_u8 wf_u32 wf_u64)
theorem own:ownKnob Tryz.prog.godebug=none:=by kernel_rfl
theorem run {H:Type} {enc:TypeId×Value→H} {W:World} {base:Nat} {args:Array Value} {ds gs:List (DataW H)} {before:List MemPlace}
  (hval:∀ (j:Nat) t v,Tryz.f3.params[j]?=some t→args[j]?=some v→Value.okWide Tryz.prog W .any base t v)
  (hW:DataW.Whole enc Tryz.prog Tryz.f3.params.toList Rows.shellNumbersSpec.vars false W args.toList ds gs before) :
  WC Cd.T 3 (args.toList.map (absA W.heap.size)) (absH W) fun v _=>v = .bool true:=by
 obtain ⟨p,q,hA0,hV,rfl,hfz,hnd⟩:=hW
 have hA:DataW.TrodAll enc Tryz.prog W 0 (fun _=>true) true Tryz.f3.params.toList args.toList ds p:=hA0
 clear hA0
 rw[Tryz.params3] at hA hval
 obtain ⟨hargs0,rfl,rfl⟩:=trodAll_nil hA
 have hargs:args.toList=[]:=hargs0
 rw[hargs]
 simp only[List.map_cons,List.map_nil]
 exact Cd.nums
theorem contract {H:Type} (enc:TypeId×Value→H) (W:World) (base:Nat) (args:Array Value) (ds gs:List (DataW H)) (before:List MemPlace)
  (hval:∀ (j:Nat) t v,Tryz.f3.params[j]?=some t→args[j]?=some v→Value.okWide Tryz.prog W .any base t v)
  (hW:DataW.Whole enc Tryz.prog Tryz.f3.params.toList Rows.shellNumbersSpec.vars false W args.toList ds gs before) :
  Calls Tryz.prog 3 args W fun e W'=>∃ v,e = .returned v∧Rows.shellNumbersSpec.post enc Tryz.prog Tryz.f3 false true false false W args v W' :=
 law_calls Cd.tab (by kernel_rfl) (by kernel_rfl) rfl (fun ds h=>by
  rw[show Tryz.f3.params.toList=[] from by rw[Tryz.params3]] at h
  match ds,h with
  | [],_=>rfl) rfl Tryz.underlying4 hW (run hval hW)
end Go.Proofs.YtoiiphcbkejliaaGreat
