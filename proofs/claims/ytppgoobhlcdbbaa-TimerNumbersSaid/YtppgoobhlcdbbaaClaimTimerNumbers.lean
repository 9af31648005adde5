/- TimerNumbers: for every input it answers true, and each argument reads as it did. -/
import Derived.Test.YtppgoobhlcdbbaaRows
import Derived.Test.YtppgoobhlcdbbaaMeTimerNumbers2
import Derived.Test.YtppgoobhlcdbbaaMh0
set_option linter.unusedVariables false
set_option linter.unusedSimpArgs false
set_option maxRecDepth 100000
namespace Go.Proofs.Ytppgoobhlcdbbaa
open Go.ChangeShapes Go.WideShapes Go.ChangeAt Go.RowKit
open Go.Dx (Dec dec_struct dec_one sees_arg arg_one absA absH WC law_calls Kd wf_u8 wf_u32 wf_u64)

theorem own : ownKnob Try.prog.godebug = none := by kernel_rfl
theorem run {H : Type} {enc : TypeId × Value → H} {W : World} {base : Nat} {args : Array Value} {ds gs : List (DataW H)} {before : List MemPlace}
    (hval : ∀ (j : Nat) t v, Try.f14.params[j]? = some t → args[j]? = some v → Value.okWide Try.prog W .any base t v)
    (hW : DataW.Whole enc Try.prog Try.f14.params.toList Rows.timerNumbersSpec.vars false W args.toList ds gs before) :
    WC Cd.T Cd.n_pianolalaw11_TimerNumbers (args.toList.map (absA W.heap.size)) (absH W) fun v _ => v = .bool true := by
  obtain ⟨p, q, hA0, hV, rfl, hfz, hnd⟩ := hW
  have hA : DataW.TrodAll enc Try.prog W 0 (fun _ => true) true Try.f14.params.toList args.toList ds p := hA0
  clear hA0
  rw [Try.params14] at hA hval
  obtain ⟨hargs0, rfl, rfl⟩ := trodAll_nil hA
  have hargs : args.toList = [] := hargs0
  rw [hargs]
  simp only [List.map_cons, List.map_nil]
  exact Cd.tnumbers

theorem contract {H : Type} (enc : TypeId × Value → H) (W : World) (base : Nat) (args : Array Value) (ds gs : List (DataW H)) (before : List MemPlace)
    (hval : ∀ (j : Nat) t v, Try.f14.params[j]? = some t → args[j]? = some v → Value.okWide Try.prog W .any base t v)
    (hW : DataW.Whole enc Try.prog Try.f14.params.toList Rows.timerNumbersSpec.vars false W args.toList ds gs before) :
    Calls Try.prog 14 args W fun e W' => ∃ v, e = .returned v ∧ Rows.timerNumbersSpec.post enc Try.prog Try.f14 false true false false W args v W' :=
  law_calls Cd.tab (by kernel_rfl) (by kernel_rfl) rfl (fun ds h => by
    rw [show Try.f14.params.toList = [] from by rw [Try.params14]] at h
    match ds, h with
    | [], _ => rfl) rfl Try.underlying4 hW (run hval hW)

theorem lifted (os : Os) (started : os.Started) (H : Type) (enc : TypeId × Value → H) :
    ReturnsInHanded {} Try.checked os 14 .any (Rows.timerNumbersSpec.pre6 enc Try.prog Try.f14 Rows.timerNumbersRow.domain false) (Rows.timerNumbersSpec.post enc Try.prog Try.f14 false true false false) := by
  refine returnsInHanded_of_change (C := Try.checked) own started (by kernel_rfl) Try.func14
    (ChangeSpec.witness6 (enc := enc) (C := Try.checked) false ⟨#[], #[], []⟩ 8 (by kernel_rfl) (by kernel_rfl) (by kernel_rfl) (by kernel_rfl)) ?_
  intro W base args ds gs before hval hW hcnd _
  exact contract enc W base args ds gs before hval hW

theorem over : Rows.timerNumbersRow.holds Try.pinned (OpenSpec.ofChange Rows.timerNumbersSpec) :=
  OpenClaim.holds_of_wide 14 Try.f14 rfl rfl rfl rfl rfl rfl rfl ⟨rfl, rfl, rfl, rfl, rfl⟩ rfl rfl rfl rfl rfl (by kernel_rfl) Try.func14 (by kernel_rfl)
    (of_decide_eq_true (by kernel_rfl)) (by unfold Func.isWrapper; first | (rw [if_pos (by decide +kernel)]; kernel_rfl) | (rw [if_neg (by decide +kernel)]; exact ⟨rfl, rfl⟩))
    (fun os started H enc _ => lifted os started H enc)

theorem proved : Rows.TimerNumbersSaid :=
  over
end Go.Proofs.Ytppgoobhlcdbbaa
