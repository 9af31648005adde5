/- BlockNumbers: for every input it answers true, and each argument reads as it did. -/
import Derived.Test.YtmgoleiafiffoaaGreatRows
import Derived.Test.YtmgoleiafiffoaaGreatMeBlockNumbers5
import Derived.Test.YtmgoleiafiffoaaGreatMh0
set_option linter.unusedVariables false
set_option linter.unusedSimpArgs false
set_option maxRecDepth 100000
namespace Go.Proofs.YtmgoleiafiffoaaGreat
open Go.ChangeShapes Go.WideShapes Go.ChangeAt Go.RowKit
open Go.Dx (Dec dec_struct dec_one sees_arg arg_one absA absH WC law_calls Kd wf_u8 wf_u32 wf_u64)

theorem own : ownKnob Tryz.prog.godebug = none := by kernel_rfl
theorem run {H : Type} {enc : TypeId × Value → H} {W : World} {base : Nat} {args : Array Value} {ds gs : List (DataW H)} {before : List MemPlace}
    (hval : ∀ (j : Nat) t v, Tryz.f3.params[j]? = some t → args[j]? = some v → Value.okWide Tryz.prog W .any base t v)
    (hW : DataW.Whole enc Tryz.prog Tryz.f3.params.toList Rows.blockNumbersSpec.vars false W args.toList ds gs before) :
    WC Cd.T Cd.n_1n (args.toList.map (absA W.heap.size)) (absH W) fun v _ => v = .bool true := by
  obtain ⟨p, q, hA0, hV, rfl, hfz, hnd⟩ := hW
  have hA : DataW.TrodAll enc Tryz.prog W 0 (fun _ => true) true Tryz.f3.params.toList args.toList ds p := hA0
  clear hA0
  rw [Tryz.params3] at hA hval
  obtain ⟨hargs0, rfl, rfl⟩ := trodAll_nil hA
  have hargs : args.toList = [] := hargs0
  rw [hargs]
  simp only [List.map_cons, List.map_nil]
  exact Cd.bnums

theorem contract {H : Type} (enc : TypeId × Value → H) (W : World) (base : Nat) (args : Array Value) (ds gs : List (DataW H)) (before : List MemPlace)
    (hval : ∀ (j : Nat) t v, Tryz.f3.params[j]? = some t → args[j]? = some v → Value.okWide Tryz.prog W .any base t v)
    (hW : DataW.Whole enc Tryz.prog Tryz.f3.params.toList Rows.blockNumbersSpec.vars false W args.toList ds gs before) :
    Calls Tryz.prog 3 args W fun e W' => ∃ v, e = .returned v ∧ Rows.blockNumbersSpec.post enc Tryz.prog Tryz.f3 false true false false W args v W' :=
  law_calls Cd.tab (by kernel_rfl) (by kernel_rfl) rfl (fun ds h => by
    rw [show Tryz.f3.params.toList = [] from by rw [Tryz.params3]] at h
    match ds, h with
    | [], _ => rfl) rfl Tryz.underlying4 hW (run hval hW)

theorem lifted (os : Os) (started : os.Started) (H : Type) (enc : TypeId × Value → H) :
    ReturnsInHanded {} Tryz.checked os 3 .any (Rows.blockNumbersSpec.pre6 enc Tryz.prog Tryz.f3 Rows.blockNumbersRow.domain false) (Rows.blockNumbersSpec.post enc Tryz.prog Tryz.f3 false true false false) := by
  refine returnsInHanded_of_change (C := Tryz.checked) own started (by kernel_rfl) Tryz.func3
    (ChangeSpec.witness6 (enc := enc) (C := Tryz.checked) false ⟨#[], #[], []⟩ 8 (by kernel_rfl) (by kernel_rfl) (by kernel_rfl) (by kernel_rfl)) ?_
  intro W base args ds gs before hval hW hcnd _
  exact contract enc W base args ds gs before hval hW

theorem over : Rows.blockNumbersRow.holds Tryz.pinned (OpenSpec.ofChange Rows.blockNumbersSpec) :=
  OpenClaim.holds_of_wide 3 Tryz.f3 rfl rfl rfl rfl rfl rfl rfl ⟨rfl, rfl, rfl, rfl, rfl⟩ rfl rfl rfl rfl rfl (by kernel_rfl) Tryz.func3 (by kernel_rfl)
    (of_decide_eq_true (by kernel_rfl)) (by unfold Func.isWrapper; first | (rw [if_pos (by decide +kernel)]; kernel_rfl) | (rw [if_neg (by decide +kernel)]; exact ⟨rfl, rfl⟩))
    (fun os started H enc _ => lifted os started H enc)

theorem proved : Rows.BlockNumbersSaid :=
  over
end Go.Proofs.YtmgoleiafiffoaaGreat
